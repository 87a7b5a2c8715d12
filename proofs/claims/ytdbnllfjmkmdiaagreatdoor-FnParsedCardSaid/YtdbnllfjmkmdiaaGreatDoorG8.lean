/- Parts of the proof of FnParsed: strings. -/
import Derived.Test.YtdbnllfjmkmdiaaGreatDoorG7
import Derived.Test.YtdbnllfjmkmdiaaGreatDoorG5
import Derived.Shelf.Strings.Builder1
import Derived.Lib.FrozenHead
set_option linter.unusedSimpArgs false
set_option linter.unusedVariables false
namespace Go.T
open Go Go.Proofs Go.Shelf Go.RowKit
set_option maxRecDepth 10000
section
variable {P : Program}
theorem AWp.regionRaw {N id : Nat} {Q : Exit -> St -> Prop} {s : St} {d : Tmp} {T U : TypeId} {pos : String} {af : Array Edge} {v : Value} (hd : d < N) (hz : ∀ w, (zeroValue T).run P w = .ok v w)
  (h : ∀ g, s.mem g = none -> Q .normal ((s.put (some d) (.ptr g 0)).withMem (s.mem.set g (.raw T v.cells.toList)))) : AWp P N (.region id #[⟨some d, .alloc T, U, pos, af, none⟩] false) Q s := by
 intro C a w hr hN;refine wp_region ?_;have hQ : xKa C (Q .normal) N (Lift C N Q .normal) := fun s a w h1 h2 h3 => ⟨s, h1, h2, h3⟩;obtain ⟨S, hS0, hm, hslots⟩ := hr.ex;show wpOps P #[⟨some d, .alloc T, U, pos, af, none⟩] (Lift C N Q) [0] a w;have hw : ∀ f, Region.wanted ⟨some d, .alloc T, U, pos, af, none⟩ f = true := fun f => rfl;simp only [wpOps, List.getElem?_toArray, List.getElem?_cons_zero, hw, if_true];refine .inl ?_;have hx : (Instr.alloc T true (.tuple #[])).run P w = .ok (.pointer (some ⟨w.heap.size, 0, none⟩)) (z6b w (.cells v.cells T)) := by
  unfold Instr.alloc;rw [zEa (hz w)];simp only [newVar, Sem.run_bind, xja, Result.andThen_ok, Sem.run_pure]
 refine Outs.go (K := Q .normal) hr hS0 hslots (fun t ht => by rw [hN]; cases ht; exact hd) ?_ (by rw [hN]; exact hQ);have hb : ypa (z6b w (.cells v.cells T)) S w.heap.size (.raw T v.cells.toList) := by
  show (z6b w (.cells v.cells T)).heap[w.heap.size]? = _;rw [x0a]
 have hrun : (execOp a.eval ⟨some d, .alloc T, U, pos, af, none⟩).run P w = .ok (.value (.pointer (some ⟨w.heap.size, 0, none⟩))) (z6b w (.cells v.cells T)) := by
  simpa [execOp] using xZa hx
 refine ⟨_, _, _, _, S, .inl hrun, h _ (xJa hm), ⟨fun _ h => h, fun _ h => .inl h⟩, yja hm _, xga hm _ hb, xla _ _ _, fun g b hg => ?_, .ptr _ _⟩;by_cases hgw : g = w.heap.size
 ·exact .inr (by omega)
 rw [Mem.so hgw] at hg; exact .inl (by rw [hg]; simp)
def wsa (l : List UInt8) : List AV := l.map fun b => AV.int .u8 b.toNat
theorem wrb (l : List UInt8) : (wsa l).length = l.length := by simp [wsa]
theorem w0a : ∀ l : List UInt8, flat (wsa l) = wsa l
 | [] => rfl
 | b :: l => by
  have := w0a l;show [AV.int .u8 b.toNat] ++ flat (wsa l) = _;rw [this]; rfl
theorem xfb {w : World} {S : Nat -> Prop} : ∀ (l : List UInt8), Reps w S (wsa l) (Lib.byteCells l)
 | [] => .nil
 | b :: l => .cons (.int _ _) (xfb l)
theorem xgb {w : World} {S : Nat -> Prop} : ∀ (l : List UInt8) {vs : List Value}, Reps w S (wsa l) vs -> vs = Lib.byteCells l
 | [], vs, h => by cases h; rfl
 | b :: l, vs, h => by
  cases h with | cons h1 h2 =>
  cases h1;rw [xgb l h2]; rfl
theorem wYc (l : List UInt8) : ∀ x ∈ wsa l, x.cells.length = 1 := fun x hx => by
 obtain ⟨b, _, rfl⟩ := List.mem_map.1 hx;rfl
def Bld (T U : TypeId) (F : Nat -> Prop) (gb : Nat) (l : List UInt8) (m : Mem) : Prop :=
 ∃ p, (p = Value.pointer none ∨ p = .pointer (some ⟨gb, 0, none⟩)) /\ F gb /\
  ((l = [] /\ m gb = some (.raw T [p, .slice none 0 0])) ∨ ∃ g c, g ≠ gb /\ F g /\ l ≠ [] /\ c <= maxLen /\ m gb = some (.raw T [p, .slice (some ⟨g, 0, none⟩) l.length c]) /\ m g = some (.arr U 1 c (wsa l)))
def wsb (F F' : Nat -> Prop) (m m' : Mem) : Prop := ∀ x b, ¬ F x -> m x = some b -> m' x = some b /\ ¬ F' x
theorem wsb.refl (F : Nat -> Prop) (m : Mem) : wsb F F m m := fun _ _ h1 h2 => ⟨h2, h1⟩
theorem wsb.trans {F F' F'' : Nat -> Prop} {a b c : Mem} (h : wsb F F' a b) (k : wsb F' F'' b c) : wsb F F'' a c := fun x y hx hy => k x y (h x y hx hy).2 (h x y hx hy).1
theorem Bld.at {T U : TypeId} {F : Nat -> Prop} {gb : Nat} {l : List UInt8} {m : Mem} (h : Bld T U F gb l m) : m gb ≠ none := by
 obtain ⟨p, _, _, ⟨_, h⟩ | ⟨g, c, _, _, _, _, h, _⟩⟩ := h <;> rw [h] <;> simp
theorem Bld.fresh (T U : TypeId) (gb : Nat) (m : Mem) : Bld T U (fun k => k = gb) gb [] (m.set gb (.raw T [.pointer none, .slice none 0 0])) := ⟨_, .inl rfl, rfl, .inl ⟨rfl, Mem.set_same _ _ _⟩⟩
theorem wZc {m : Mem} {gb : Nat} (hg : m gb = none) (b : Blk) : ∀ x y, m x = some y -> (m.set gb b) x = some y /\ x ≠ gb := fun x y hx => by
 have hne : x ≠ gb := by rintro rfl; rw [hg] at hx; cases hx
 exact ⟨by rw [Mem.so hne]; exact hx, hne⟩
theorem Bld.world {T U : TypeId} {F : Nat -> Prop} {gb : Nat} {l : List UInt8} {m : Mem} (h : Bld T U F gb l m) {w : World} {S : Nat -> Prop} (hm : zva w S m) :
  ∃ p v, (p = Value.pointer none ∨ p = .pointer (some ⟨gb, 0, none⟩)) /\ w.heap[gb]? = some (.cells #[p, v] T (0, 0)) /\ w.ownsRow 0 U 1 v (Lib.byteCells l).length (Lib.byteCells l) /\ v.ownBlock ≠ some gb /\ (∀ k, v.ownBlock = some k -> F k /\ m k ≠ none /\ l ≠ []) := by
 obtain ⟨p, hp, hF, ⟨rfl, h⟩ | ⟨g, c, h1, h2, h3, h4, h5, h6⟩⟩ := h
 ·exact ⟨p, _, hp, hm.blk _ _ h, ⟨rfl, .inl ⟨rfl, rfl⟩⟩, by simp [Value.ownBlock], fun k hk => by simp [Value.ownBlock] at hk⟩
 refine ⟨p, _, hp, hm.blk _ _ h5, ?_, by simpa [Value.ownBlock] using h1, fun k hk => by simp [Value.ownBlock] at hk; subst hk; exact ⟨h2, by rw [h6]; simp, h3⟩⟩;obtain ⟨vs, us, q1, q2, q3, q4, q5⟩ := hm.blk _ _ h6;rw [w0a] at q2;have e := xgb _ q2;subst e;rw [wrb] at q5;have hl := Lib.byteCells_length l;refine ⟨by omega, .inr ⟨g, c, _, by rw [hl], Nat.zero_le _, q1, by omega, h4, by simpa using q3, ?_⟩⟩;simp
theorem Bld.of_world {T U : TypeId} {gb : Nat} {l : List UInt8} {p v : Value} {w : World} {S : Nat -> Prop} (hp : p = Value.pointer none ∨ p = .pointer (some ⟨gb, 0, none⟩)) (hgb : w.heap[gb]? = some (.cells #[p, v] T (0, 0)))
  (hown : w.ownsRow 0 U 1 v (Lib.byteCells l).length (Lib.byteCells l)) (hne : v.ownBlock ≠ some gb) (hl : v = .slice none 0 0 -> l = []) (hl' : ∀ k, v.ownBlock = some k -> l ≠ []) :
  (l = [] /\ ypa w S gb (.raw T [p, .slice none 0 0])) ∨ ∃ g c, v.ownBlock = some g /\ g ≠ gb /\ l ≠ [] /\ c <= maxLen /\ ypa w S gb (.raw T [p, .slice (some ⟨g, 0, none⟩) l.length c]) /\ ypa w S g (.arr U 1 c (wsa l)) := by
 rcases hown.2 with ⟨rfl, _⟩ | ⟨g, c, cur, rfl, _, hg, hnc, hcm, hcs, ht⟩
 ·exact .inl ⟨hl rfl, hgb⟩
 have e := Lib.byteCells_length l;refine .inr ⟨g, c, rfl, fun e => hne (by rw [e]; rfl), hl' g rfl, hcm, by rw [e] at hgb; exact hgb, ?_⟩;have hcl : cur.toList.length = c := by simpa using hcs
 have ht' : cur.toList.take l.length = Lib.byteCells l := by rw [<- e]; simpa using ht
 refine ⟨Lib.byteCells l, cur.toList.drop l.length, ?_, by rw [w0a]; exact xfb l, ?_, wYc l, ?_⟩
 ·rw [hg, <- ht'];simp
 ·rw [<- ht'];simpa using hcs
 rw [wrb]; omega
theorem w8b {w : World} {t u ty e : TypeId} {i : TypeInfo} (ht : P.underlying t = some (.slice e)) (hu : P.underlying u = some .string) (hi : P.info? e = some i) (hz : i.zero = some (.int .u8 0))
  (hsize : i.size = 1) (hby : i.bytes = 1) {v : Value} {n : Nat} {xs : List Value} (hown : w.ownsRow 0 e 1 v n xs) (s : ByteArray) (h63 : n + s.size <= maxLen) (hbytes : n + s.size <= 140737488355328) :
  ∃ v' w', (Builtin.append_ #[t, u] ty #[v, .string s]).run P w = .ok v' w' /\ w'.ownsRow 0 e 1 v' (n + s.size) (xs ++ Lib.strCells s) /\ w.grownBy w' v.ownBlock /\
   (v' = .slice none 0 0 <-> v = .slice none 0 0 /\ s.size = 0) /\ ∀ k, v'.ownBlock = some k -> v.ownBlock = some k ∨ w.heap.size <= k := by
 obtain ⟨v', w', hr, h2, h3, h4⟩ := Lib.run_append_own_string (P := P) w 0 t u ty e i ht hu hi hz hsize hby v n xs hown s h63 hbytes (Nat.zero_le _);refine ⟨v', w', hr, h2, h3, h4, ?_⟩;intro k hk;rcases hown.2 with ⟨rfl, rfl⟩ | ⟨g, cap, cur, rfl, hbg, hg, hnc, hcm, hcs, htake⟩
 ·obtain ⟨v1, w1, q1, q2, _, _⟩ := Lib.run_append_own_string (P := P) w w.heap.size t u ty e i ht hu hi hz hsize hby (.slice none 0 0) 0 xs ⟨hown.1, .inl ⟨rfl, rfl⟩⟩ s h63 hbytes (Nat.le_refl _);rw [hr] at q1;injection q1 with e1 e2;subst e1;rcases q2.2 with ⟨rfl, _⟩ | ⟨g', c', cur', rfl, hb, _⟩
  ·simp [Value.ownBlock] at hk
  simp [Value.ownBlock] at hk;exact .inr (by omega)
 have hxl : xs.length = n := by simpa using hown.1
 by_cases hroom : n + s.size <= cap
 ·have hcs' : cur.size = cap := by simpa using hcs
  have q := Lib.run_append_room_stringF (P := P) w t u ty e i ht hu hi hsize g n cap cur (0, 0) hg (by simp) s hroom (by omega);rw [hr] at q;injection q with e1 e2;subst e1;exact .inl hk
 have holds : ∀ j u, xs[j]? = some u -> w.cell? ((⟨g, 0, none⟩ : Addr).add j) = some u := hown.cells (g := g) rfl;have hsm : n + s.size <= 9223372036854775807 := by simp only [maxLen] at h63; omega
 have q := Lib.run_append_grow_string (P := P) w t u ty e i (.int .u8 0) ht hu hi hz ⟨g, 0, none⟩ n cap xs (by rw [hsize]; simpa using hxl) holds s (by omega) (by omega) (by rw [hby]; exact growslice_fits (by omega) (by omega));rw [hr] at q;injection q with e1 e2;subst e1;simp [Value.ownBlock] at hk;exact .inr (by omega)
end
section
variable {P : Program} {ρ : Ren}
theorem zXb {w : World} {ops : Array Oper} {rest : List Oper} {o : Oper} {a : Act} {Q : Exit -> Act -> World -> Prop} (hgd : o.guard = none) (sl x : Operand) (t u : TypeId)
  (ho : o.op = .call { callee := .builtin .append, args := #[sl, x], argTypes := #[t, u] })
  (e : TypeId) (i : TypeInfo) (ht : P.underlying t = some (.slice e)) (hu : P.underlying u = some .string) (hi : P.info? e = some i) (hz : i.zero = some (.int .u8 0))
  (hsize : i.size = 1) (hby : i.bytes = 1)
  (v : Value) (n : Nat) (xs : List Value) (hs : a.eval sl = v) (hown : w.ownsRow 0 e 1 v n xs) (s : ByteArray) (hx : a.eval x = .string s)
  (h63 : n + s.size <= maxLen) (hbytes : n + s.size <= 140737488355328)
  (h : ∀ v' w', w'.ownsRow 0 e 1 v' (n + s.size) (xs ++ Lib.strCells s) -> w.grownBy w' v.ownBlock -> (v' = .slice none 0 0 <-> v = .slice none 0 0 /\ s.size = 0) -> (∀ k, v'.ownBlock = some k -> v.ownBlock = some k ∨ w.heap.size <= k) -> wpList P ops Q rest (a.put o.dst v') w') : wpList P ops Q (o :: rest) a w := by
 refine wpList_plain hgd fun K hK => ?_;obtain ⟨v', w', hr, h2, h3, h4, h5⟩ := w8b (P := P) (ty := o.type) ht hu hi hz hsize hby hown s h63 hbytes;unfold Oper.wp execOp;simp only [ho, resolve, invoke, builtin, Sem.run_bind, Sem.run_pure, Result.andThen_ok, List.map_toArray, List.map_cons, List.map_nil, hs, hx, hr];exact hK _ _ (h v' w' h2 h3 h4 h5)
set_option maxHeartbeats 2000000 in
set_option maxRecDepth 100000 in
theorem wrote (L : Lays.n166 P ρ) (X : Builder.Extra P ρ) (b : Nat) (p v : Value) (bs : List Value) (s : ByteArray) (w : World) (hp : p = .pointer none ∨ p = .pointer (some ⟨b, 0, none⟩))
  (hbk : w.heap[b]? = some (.cells #[p, v] (ρ.t 72) (0, 0))) (hown : w.ownsRow 0 (ρ.t 5) 1 v bs.length bs) (hne : v.ownBlock ≠ some b) (hlen : bs.length + s.size <= 140737488355328) :
  Calls P (ρ.f 166) #[.pointer (some ⟨b, 0, none⟩), .string s] w fun e w' => e = .returned (.tuple #[.int .i64 s.size, .nilIface]) /\ ∃ v', w'.heap[b]? = some (.cells #[.pointer (some ⟨b, 0, none⟩), v'] (ρ.t 72) (0, 0)) /\
   w'.ownsRow 0 (ρ.t 5) 1 v' (bs ++ Lib.strCells s).length (bs ++ Lib.strCells s) /\ v'.ownBlock ≠ some b /\ (v' = .slice none 0 0 <-> v = .slice none 0 0 /\ s.size = 0) /\ (∀ k, v'.ownBlock = some k -> v.ownBlock = some k ∨ w.heap.size <= k) /\
   w'.os = w.os /\ w'.tape = w.tape /\ w'.output = w.output /\ w.heap.size <= w'.heap.size /\ ∀ k, k < w.heap.size -> k ≠ b -> some k ≠ v.ownBlock -> w'.heap[k]? = w.heap[k]? := by
 obtain ⟨i0, hi, hz0, hz1, hz2⟩ := info_parts X.infoByte;have mixed := L.mixed;have t72 := L.t72; have a72 := L.a72; have z72 := L.z72; have v72 := L.v72; have u72 := run_underlying L.t72;have t70 := L.t70; have a70 := L.a70; have z70 := L.z70; have v70 := L.v70; have u70 := run_underlying L.t70;have t37 := L.t37; have a37 := L.a37; have z37 := L.z37; have v37 := L.v37; have u37 := run_underlying L.t37;have t3 := L.t3; have a3 := L.a3; have z3 := L.z3; have v3 := L.v3; have u3 := run_underlying L.t3;have t9 := L.t9; have a9 := L.a9; have z9 := L.z9; have v9 := L.v9; have u9 := run_underlying L.t9;have t4 := L.t4; have a4 := L.a4; have z4 := L.z4; have v4 := L.v4; have u4 := run_underlying L.t4;have t164 := L.t164; have a164 := L.a164; have z164 := L.z164; have v164 := L.v164; have u164 := run_underlying L.t164;have t5 := X.t5; have a5 := X.a5; have z5 := X.z5; have v5 := X.v5; have u5 := run_underlying X.t5;have e240 : ∀ args w, (callFunc (ρ.f 240) args).run P w = .ok (.enter (ρ.f 240) args) w := enters_of L.f240 (by kernel_rfl) rfl;have hltb : b < w.heap.size := (Array.getElem?_eq_some_iff.1 hbk).1;have chk : Calls P (ρ.f 240) #[.pointer (some ⟨b, 0, none⟩)] w fun e w' => e = .returned (.tuple #[]) /\ (w'.heap[b]? = some (.cells #[.pointer (some ⟨b, 0, none⟩), v] (ρ.t 72) (0, 0)) /\ w'.os = w.os /\ w'.tape = w.tape /\ w'.output = w.output /\ w'.heap.size = w.heap.size /\ ∀ k, k ≠ b -> w'.heap[k]? = w.heap[k]?) := by
  have h0 : Lib.BuilderAt (ρ.t 72) (ρ.t 5) 0 b p bs w := ⟨Nat.zero_le _, v, hbk, hown, hne⟩;rcases hp with rfl | rfl
  ·refine (Any.Builder_copyCheck_fresh { L with } X.toX72 b w h0.cell0 h0.shape h0.frozen0).mono ?_;rintro e w' ⟨rfl, rfl⟩;exact ⟨rfl, by simp [World.setCell, Array.getElem?_modify, hbk], rfl, rfl, rfl, by simp [World.setCell], fun k hk => Below.heap_setCell _ _ _ _ (fun e => hk e)⟩
  refine (Any.Builder_copyCheck_used { L with } X.toX72 b w h0.cell0).mono ?_;rintro e w' ⟨rfl, rfl⟩;exact ⟨rfl, hbk, rfl, rfl, rfl, rfl, fun k hk => rfl⟩
 go_enter L.f166, Body.n166_ntmps ρ
 go_wp2_with (go_at_fn (ρ.f 240); refine chk.mono ?_)
 rintro e w1 ⟨rfl, hbk1, ho1, ht1, hu1, hs1, hk1⟩;have hown1 : w1.ownsRow 0 (ρ.t 5) 1 v bs.length bs := by
  rcases hown.2 with ⟨rfl, h0⟩ | ⟨g, cap, cur, rfl, q1, q2, q3⟩
  ·exact ⟨hown.1, .inl ⟨rfl, h0⟩⟩
  exact ⟨hown.1, .inr ⟨g, cap, cur, rfl, q1, (hk1 g (fun e => hne (by rw [e]; rfl))).trans q2, q3⟩⟩
 have c0 : w1.cell? ⟨b, 0, none⟩ = some (.pointer (some ⟨b, 0, none⟩)) := by rw [Lib.cell_of_heap hbk1]; rfl
 have c1 : w1.cell? ⟨b, 1, none⟩ = some v := by rw [Lib.cell_of_heap hbk1]; rfl
 go_wp2_with (at_builtin; refine zXb rfl _ _ (ρ.t 37) (ρ.t 9) rfl (ρ.t 5) i0 L.t37 L.t9 hi hz0 hz1 hz2 _ _ _ rfl hown1 s rfl ?c3 ?c4 ?_)
 case c3 => unfold maxLen; omega
 case c4 => omega
 intro v' w2 hown' hgrow hiff hblk;have hlt : b < w1.heap.size := by omega
 have hb2 : w2.heap[b]? = some (.cells #[.pointer (some ⟨b, 0, none⟩), v] (ρ.t 72) (0, 0)) := by
  rw [hgrow.block b hlt (fun e => hne e.symm)];exact hbk1
 have d0 : w2.cell? ⟨b, 0, none⟩ = some (.pointer (some ⟨b, 0, none⟩)) := by rw [Lib.cell_of_heap hb2]; rfl
 have d1 : w2.cell? ⟨b, 1, none⟩ = some v := by rw [Lib.cell_of_heap hb2]; rfl
 have f1 : w2.frozen? ⟨b, 1, none⟩ = false := Lib.frozen_of_heap hb2 1;obtain ⟨ao, n', cap, rfl⟩ : ∃ ao n' cap, v' = .slice ao n' cap := by
  rcases hown'.2 with ⟨hv, _⟩ | ⟨g, cap, cur, hv, _⟩
  ·exact ⟨_, _, _, hv⟩
  exact ⟨_, _, _, hv⟩
 have hput := Lib.BuilderAt.put (T := (ρ.t 72)) (e := (ρ.t 5)) (Nat.zero_le b) hb2 (bs' := bs ++ Lib.strCells s) (by simpa [Lib.strCells_length] using hown') X.neB5
 go_wp2
 go_ret2
 obtain ⟨_, v'', q1, q2, q3⟩ := hput;have e3 : (w2.setCell ⟨b, 1, none⟩ (.slice ao n' cap)).heap[b]? = some (.cells #[.pointer (some ⟨b, 0, none⟩), .slice ao n' cap] (ρ.t 72) (0, 0)) := by simp [World.setCell, Array.getElem?_modify, hb2]
 rw [e3] at q1;injection q1 with q1;injection q1 with q1 _ _;have q4 : Value.slice ao n' cap = v'' := by
  have := congrArg (fun a => a[1]?) q1;simpa using this
 subst q4;refine ⟨rfl, _, e3, q2, q3, by simpa using hiff, fun k hk => (hblk k hk).imp id (fun h => by omega), hgrow.os.trans ho1, hgrow.tape.trans ht1, hgrow.output.trans hu1, ?_, fun k hk hkb hkv => ?_⟩
 ·have := hgrow.size;simp [World.setCell];omega
 rw [Below.heap_setCell _ _ _ _ (fun e => hkb e), hgrow.block k (by omega) hkv];exact hk1 k hkb
theorem xRb (L : Lays.n166 P ρ) (X : Builder.Extra P ρ) (hbod : y8a P (ρ.f 166)) {gb : Nat} {F : Nat -> Prop} {l : List UInt8} {m : Mem} (h : Bld (ρ.t 72) (ρ.t 5) F gb l m) (s : ByteArray) (hz : l.length + s.size <= 140737488355328) {K : AV -> Mem -> Prop}
  (hK : ∀ m' F', Bld (ρ.t 72) (ρ.t 5) F' gb (l ++ s.data.toList) m' -> wsb F F' m m' -> K (.tup [.int .i64 s.size, .undef]) m') : zka P (ρ.f 166) [.ptr gb 0, .str s] m K := by
 refine ⟨hbod, fun w S cargs hm hr => ?_⟩;have hat := h.at
 obtain ⟨p, v, hp, hbk, hown, hne, hv⟩ := h.world hm;cases hr with | cons h1 h2 =>
 cases h1;cases h2 with | cons h3 h4 =>
 cases h3;cases h4;refine zma (wrote L X gb p v _ s w hp hbk hown hne (by rw [Lib.byteCells_length]; exact hz)) ?_;rintro e w' ⟨rfl, v', q1, q2, q3, q4, q5, qo, qt, qu, qs, qk⟩;have eb : Lib.byteCells l ++ Lib.strCells s = Lib.byteCells (l ++ s.data.toList) := by simp [Lib.byteCells, Lib.strCells]
 rw [eb] at q2;have hnil : v = .slice none 0 0 -> l = [] := fun hv0 => by
  have := hown.1;rcases hown.2 with ⟨_, h0⟩ | ⟨g, c, cur, hv1, _⟩
  ·rw [Lib.byteCells_length] at h0; exact List.eq_nil_of_length_eq_zero h0
  rw [hv0] at hv1; cases hv1
 have hs0 : s.size = 0 -> s.data.toList = [] := fun h0 => List.eq_nil_of_length_eq_zero h0;have hs1 : s.data.toList = [] -> s.size = 0 := fun h0 => by have := congrArg List.length h0; simpa using this
 have hl : v' = .slice none 0 0 -> l ++ s.data.toList = [] := fun h0 => by
  obtain ⟨a, b⟩ := q4.1 h0;rw [hnil a, hs0 b]; rfl
 have hl' : ∀ k, v'.ownBlock = some k -> l ++ s.data.toList ≠ [] := fun k hk h0 => by
  obtain ⟨a, b⟩ := List.append_eq_nil_iff.1 h0;have hvn : v = .slice none 0 0 := by
   rcases hown.2 with ⟨hv1, _⟩ | ⟨g, c, cur, hv1, _⟩
   ·exact hv1
   exact absurd a (hv g (by rw [hv1]; rfl)).2.2
  have := q4.2 ⟨hvn, hs1 b⟩;rw [this] at hk;cases hk
 have hgb : F gb := h.choose_spec.2.1;have hst : Stays S w w' := fun b hb => qk b (hm.apart b hb).2 (fun e => by rw [e] at hb; exact hat (hm.apart _ hb).1) (fun e => (hv b e.symm).2.1 (hm.apart _ hb).1);have old : ∀ g b, m g = some b -> g ≠ gb -> some g ≠ v.ownBlock -> ypa w' S g b := fun g b hg h1 h2 =>
  ypa.mono hst (fun _ h => h) (qk g ((hm.blk _ _ hg).lt) h1 h2) (hm.blk _ _ hg)
 have hkeep : Keep (fun g => m g ≠ none) w w' := ⟨qo, qt, qu, qs, fun b hb hn => qk b hb (fun e => hn (by rw [e]; exact hat)) (fun e => hn (hv b e.symm).2.1)⟩;have hr' : Rep w' S (.tup [.int .i64 s.size, .undef]) (.tuple #[.int .i64 s.size, .nilIface]) := Rep.tup (vs := [.int .i64 s.size, .nilIface]) (.cons (.int _ _) (.cons (.undef _) .nil));rcases Bld.of_world (S := S) (.inr rfl) q1 q2 q3 hl hl' with ⟨e0, b1⟩ | ⟨g, c, hg, g1, g2, g3, g4, g5⟩
 ·-- nothing is in it yet
  have hvn : v = .slice none 0 0 := by
   rcases hown.2 with ⟨hv1, _⟩ | ⟨g, c, cur, hv1, _⟩
   ·exact hv1
   exact absurd (List.append_eq_nil_iff.1 e0).1 (hv g (by rw [hv1]; rfl)).2.2
  refine ⟨_, _, m.set gb (.raw (ρ.t 72) [.pointer (some ⟨gb, 0, none⟩), .slice none 0 0]), S, rfl, hK _ F ⟨_, .inr rfl, hgb, .inl ⟨e0, Mem.set_same _ _ _⟩⟩ (fun x b hx hb => ⟨by rw [Mem.so (fun e => hx (by rw [e]; exact hgb))]; exact hb, hx⟩),
   fun _ h => h, fun _ h => .inl h, ⟨fun x b hb => ?_, fun b hb => ⟨?_, Nat.lt_of_lt_of_le (hm.apart b hb).2 qs⟩⟩, hr', hkeep, fun x b hb => ?_⟩
  ·by_cases hx : x = gb
   ·subst hx; rw [Mem.set_same] at hb; cases hb; exact b1
   rw [Mem.so hx] at hb; exact old x b hb hx (by rw [hvn]; simp [Value.ownBlock])
  ·rw [Mem.so (fun e => by rw [e] at hb; exact hat (hm.apart _ hb).1)]; exact (hm.apart b hb).1
  by_cases hx : x = gb
  ·subst hx; exact .inl hat
  rw [Mem.so hx] at hb; exact .inl (by rw [hb]; simp)
 -- its row
 have hgnew : v.ownBlock = some g ∨ w.heap.size <= g := q5 g hg;have hsg : ∀ b, S b -> b ≠ g := fun b hb e => by
  subst e;rcases hgnew with h0 | h0
  ·exact (hv _ h0).2.1 (hm.apart _ hb).1
  have := (hm.apart _ hb).2; omega
 refine ⟨_, _, ((Mem.set (fun k => if some k = v.ownBlock then none else m k) gb (.raw (ρ.t 72) [.pointer (some ⟨gb, 0, none⟩), .slice (some ⟨g, 0, none⟩) (l ++ s.data.toList).length c]))).set g (.arr (ρ.t 5) 1 c (wsa (l ++ s.data.toList))), S, rfl,
  hK _ (fun k => k = gb ∨ k = g) ⟨_, .inr rfl, .inl rfl, .inr ⟨g, c, g1, .inr rfl, g2, g3, by rw [Mem.so (Ne.symm g1), Mem.set_same], Mem.set_same _ _ _⟩⟩ (fun x b hx hb => ?_),
  fun _ h => h, fun _ h => .inl h, ⟨fun x b hb => ?_, fun b hb => ⟨?_, Nat.lt_of_lt_of_le (hm.apart b hb).2 qs⟩⟩, hr', hkeep, fun x b hb => ?_⟩
 ·have hxg : x ≠ g := fun e => by
   subst e;rcases hgnew with h0 | h0
   ·exact hx (hv _ h0).1
   have := (hm.blk _ _ hb).lt; omega
  have hxb : x ≠ gb := fun e => hx (by rw [e]; exact hgb);refine ⟨?_, fun e => e.elim hxb hxg⟩;rw [Mem.so hxg, Mem.so hxb];show (if some x = v.ownBlock then none else m x) = some b
  rw [if_neg (fun e => hx (hv _ e.symm).1)]; exact hb
 ·by_cases hx : x = g
  ·subst hx; rw [Mem.set_same] at hb; cases hb; exact g5
  rw [Mem.so hx] at hb;by_cases hxb : x = gb
  ·subst hxb; rw [Mem.set_same] at hb; cases hb; exact g4
  rw [Mem.so hxb] at hb;by_cases hxv : some x = v.ownBlock
  ·simp only [if_pos hxv] at hb; cases hb
  simp only [if_neg hxv] at hb; exact old x b hb hxb hxv
 ·rw [Mem.so (hsg b hb), Mem.so (fun e => by rw [e] at hb; exact hat (hm.apart _ hb).1)];show (if some b = v.ownBlock then none else m b) = none
  split
  ·rfl
  exact (hm.apart b hb).1
 by_cases hx : x = g
 ·subst hx;exact hgnew.imp (fun h0 => (hv _ h0).2.1) id
 rw [Mem.so hx] at hb;by_cases hxb : x = gb
 ·subst hxb; exact .inl hat
 rw [Mem.so hxb] at hb;by_cases hxv : some x = v.ownBlock
 ·simp only [if_pos hxv] at hb; cases hb
 simp only [if_neg hxv] at hb; exact .inl (by rw [hb]; simp)
end
section
variable {P : Program} {ρ : Ren}
theorem ygc (w : World) (p : Addr) (n k : Nat) (hk : k ≠ p.block) : (w.freeze p n).heap[k]? = w.heap[k]? := by
 unfold World.freeze;split
 ·rfl
 simp only [Array.getElem?_modify];rw [if_neg (Ne.symm hk)]
theorem xac (w : World) (p : Addr) (n : Nat) : (w.freeze p n).heap.size = w.heap.size /\ (w.freeze p n).os = w.os /\ (w.freeze p n).tape = w.tape /\ (w.freeze p n).output = w.output := by
 unfold World.freeze;split <;> simp
set_option maxHeartbeats 1000000 in
set_option maxRecDepth 100000 in
theorem yxd (L : Lays.n169 P ρ) (X : Builder.Extra P ρ) (b g cap : Nat) (p : Value) (l : List UInt8) (w : World) (hbk : w.heap[b]? = some (.cells #[p, .slice (some ⟨g, 0, none⟩) l.length cap] (ρ.t 72) (0, 0)))
  (hown : w.ownsRow 0 (ρ.t 5) 1 (.slice (some ⟨g, 0, none⟩) l.length cap) l.length (Lib.byteCells l)) (h0 : l ≠ []) :
  Calls P (ρ.f 169) #[.pointer (some ⟨b, 0, none⟩)] w fun e w' => e = .returned (.string ⟨l.toArray⟩) /\ w'.os = w.os /\ w'.tape = w.tape /\ w'.output = w.output /\ w'.heap.size = w.heap.size /\ ∀ k, k ≠ g -> w'.heap[k]? = w.heap[k]? := by
 have hl0 : l.length ≠ 0 := by simpa using h0
 obtain ⟨cur, hg, hnc, hcm, hcs, htake⟩ : ∃ cur, w.heap[g]? = some (.cells cur (ρ.t 5) (0, 0)) /\ l.length <= cap /\ cap <= maxLen /\ cur.size = cap * 1 /\ cur.toList.take (l.length * 1) = Lib.byteCells l := by
  rcases hown.2 with ⟨hv, _⟩ | ⟨g', cap', cur, hv, _, r⟩
  ·cases hv
  injection hv with e1 e2 e3;injection e1 with e1;injection e1 with e1;subst e1 e3;exact ⟨cur, r⟩
 have c1 : w.drew.cell? ⟨b, 1, none⟩ = some (.slice (some ⟨g, 0, none⟩) l.length cap) := by
  have : w.drew.heap[b]? = some (.cells #[p, .slice (some ⟨g, 0, none⟩) l.length cap] (ρ.t 72) (0, 0)) := hbk;rw [Lib.cell_of_heap this]; rfl
 have hSD : (Builtin.unsafeSliceData_ #[(ρ.t 37)] (ρ.t 127) #[.slice (some ⟨g, 0, none⟩) l.length cap]).run P w.drew = .ok (.pointer (some ⟨g, 0, none⟩)) w.drew :=
  Lib.run_unsafeSliceData_row _ _ _ _ _ _ (by omega)
 have hUS : (Builtin.unsafeString_ #[(ρ.t 127), (ρ.t 3)] (ρ.t 9) #[.pointer (some ⟨g, 0, none⟩), .int .i64 l.length]).run P w.drew = .ok (.string ⟨l.toArray⟩) (w.drew.freeze ⟨g, 0, none⟩ l.length) := by
  refine Lib.run_unsafeString_row w.drew (ρ.t 127) (ρ.t 3) (ρ.t 9) (ρ.t 5) L.t127 X.cellsByte g cur.size (by have hg' : w.drew.heap[g]? = some (.cells cur (ρ.t 5) (0, 0)) := hg; simp [World.shape?, hg']) l h0 (by omega) (by unfold maxLen at hcm; omega) ?_;intro j x hx;have := hown.cells (g := g) rfl j (.int .u8 x.toNat) (by simp [Lib.byteCells, hx]);exact this
 have mixed := L.mixed;have t72 := L.t72; have a72 := L.a72; have z72 := L.z72; have v72 := L.v72; have u72 := run_underlying L.t72;have t70 := L.t70; have a70 := L.a70; have z70 := L.z70; have v70 := L.v70; have u70 := run_underlying L.t70;have t37 := L.t37; have a37 := L.a37; have z37 := L.z37; have v37 := L.v37; have u37 := run_underlying L.t37;have t127 := L.t127; have a127 := L.a127; have z127 := L.z127; have v127 := L.v127; have u127 := run_underlying L.t127;have t3 := L.t3; have a3 := L.a3; have z3 := L.z3; have v3 := L.v3; have u3 := run_underlying L.t3;have t9 := L.t9; have a9 := L.a9; have z9 := L.z9; have v9 := L.v9; have u9 := run_underlying L.t9;have t5 := X.t5; have a5 := X.a5; have z5 := X.z5; have v5 := X.v5; have u5 := run_underlying X.t5;have hfs := xac w.drew ⟨g, 0, none⟩ l.length;have hfo := fun k hk => ygc w.drew ⟨g, 0, none⟩ l.length k hk
 go_enter L.f169, Body.n169_ntmps ρ
 go_wp2
 go_region_o
 all_goals (go_wp2; go_ret; exact ⟨rfl, hfs.2.1, hfs.2.2.1, hfs.2.2.2, hfs.1, hfo⟩)
set_option maxHeartbeats 2000000 in
set_option maxRecDepth 100000 in
theorem yyd (L : Lays.n169 P ρ) (X : Builder.Extra P ρ) (b : Nat) (p : Value) (w : World) (hbk : w.heap[b]? = some (.cells #[p, .slice none 0 0] (ρ.t 72) (0, 0))) :
  Calls P (ρ.f 169) #[.pointer (some ⟨b, 0, none⟩)] w fun e w' => e = .returned (.string ⟨#[]⟩) /\ w'.os = w.os /\ w'.tape = w.tape /\ w'.output = w.output /\ w'.heap.size = w.heap.size /\ ∀ k : Nat, w'.heap[k]? = w.heap[k]? := by
 have hUS := Any.unsafeString_none L X;have c1 : w.drew.cell? ⟨b, 1, none⟩ = some (.slice none 0 0) := by
  have : w.drew.heap[b]? = some (.cells #[p, .slice none 0 0] (ρ.t 72) (0, 0)) := hbk;rw [Lib.cell_of_heap this]; rfl
 have hSD : (Builtin.unsafeSliceData_ #[(ρ.t 37)] (ρ.t 127) #[.slice none 0 0]).run P w.drew = .ok (.pointer none) w.drew := rfl;have mixed := L.mixed;have t72 := L.t72; have a72 := L.a72; have z72 := L.z72; have v72 := L.v72; have u72 := run_underlying L.t72;have t70 := L.t70; have a70 := L.a70; have z70 := L.z70; have v70 := L.v70; have u70 := run_underlying L.t70;have t37 := L.t37; have a37 := L.a37; have z37 := L.z37; have v37 := L.v37; have u37 := run_underlying L.t37;have t127 := L.t127; have a127 := L.a127; have z127 := L.z127; have v127 := L.v127; have u127 := run_underlying L.t127;have t3 := L.t3; have a3 := L.a3; have z3 := L.z3; have v3 := L.v3; have u3 := run_underlying L.t3;have t9 := L.t9; have a9 := L.a9; have z9 := L.z9; have v9 := L.v9; have u9 := run_underlying L.t9;have t5 := X.t5; have a5 := X.a5; have z5 := X.z5; have v5 := X.v5; have u5 := run_underlying X.t5
 go_enter L.f169, Body.n169_ntmps ρ
 go_wp2
 go_region_o
 all_goals (go_wp2; go_ret; exact ⟨rfl, rfl, rfl, rfl, rfl, fun k => rfl⟩)
theorem yzd (L : Lays.n169 P ρ) (X : Builder.Extra P ρ) (hbod : y8a P (ρ.f 169)) {gb : Nat} {F : Nat -> Prop} {l : List UInt8} {m : Mem} (h : Bld (ρ.t 72) (ρ.t 5) F gb l m) {K : AV -> Mem -> Prop}
  (hK : ∀ m', (∀ x b, ¬ F x -> m x = some b -> m' x = some b) -> K (.str ⟨l.toArray⟩) m') : zka P (ρ.f 169) [.ptr gb 0] m K := by
 refine ⟨hbod, fun w S cargs hm hr => ?_⟩;have hat := h.at
 obtain ⟨p, v, hp, hbk, hown, hne, hv⟩ := h.world hm;cases hr with | cons h1 h2 =>
 cases h1;cases h2;have hgb : F gb := h.choose_spec.2.1;rw [Lib.byteCells_length] at hown;rcases hown.2 with ⟨rfl, h0⟩ | ⟨g, cap, cur, rfl, _⟩
 ·have e0 : l = [] := List.eq_nil_of_length_eq_zero h0;subst e0;refine zma (yyd L X gb p w hbk) ?_;rintro e w' ⟨rfl, qo, qt, qu, qs, qk⟩;have hst : Stays S w w' := fun b _ => qk b;exact ⟨_, _, m, S, rfl, hK m fun x b _ hb => hb, fun _ h => h, fun _ h => .inl h, ⟨fun x b hb => ypa.mono hst (fun _ h => h) (qk x) (hm.blk _ _ hb), fun b hb => ⟨(hm.apart b hb).1, by rw [qs]; exact (hm.apart b hb).2⟩⟩, .str _,
   ⟨qo, qt, qu, by omega, fun b _ _ => qk b⟩, fun x b hb => .inl (by rw [hb]; simp)⟩
 obtain ⟨hF, hmg, hl0⟩ := hv g rfl;refine zma (yxd L X gb g cap p l w (by simpa [Lib.byteCells_length] using hbk) hown hl0) ?_;rintro e w' ⟨rfl, qo, qt, qu, qs, qk⟩;have hst : Stays S w w' := fun b hb => qk b fun e => by rw [e] at hb; exact hmg (hm.apart _ hb).1
 refine ⟨_, _, m.del g, S, rfl, hK _ fun x b hx hb => ?_, fun _ h => h, fun _ h => .inl h, ⟨fun x b hb => ?_, fun b hb => ⟨?_, by rw [qs]; exact (hm.apart b hb).2⟩⟩, .str _, ⟨qo, qt, qu, by omega, fun b _ hb => qk b fun e => hb (by rw [e]; exact hmg)⟩, fun x b hb => ?_⟩
 ·unfold Mem.del;rw [if_neg (fun e => hx (by rw [e]; exact hF))];exact hb
 ·unfold Mem.del at hb;by_cases hx : x = g
  ·rw [if_pos hx] at hb; cases hb
  rw [if_neg hx] at hb; exact ypa.mono hst (fun _ h => h) (qk x hx) (hm.blk _ _ hb)
 ·unfold Mem.del;split
  ·rfl
  exact (hm.apart b hb).1
 unfold Mem.del at hb;by_cases hx : x = g
 ·rw [if_pos hx] at hb; cases hb
 rw [if_neg hx] at hb; exact .inl (by rw [hb]; simp)
end
end Go.T
