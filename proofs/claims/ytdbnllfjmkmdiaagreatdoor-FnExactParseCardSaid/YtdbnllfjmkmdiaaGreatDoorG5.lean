/- Copies that are one's own: structs put together field by field; what comes of a call seen otherwise. What is done to a memory by calls of one's own; rows of one's own that grow. Boxes and trees of one's own that stand at once; what marks are, in one form. Rows that boxes hold: they grow, they are not written any more. Rows of leaves that grow and are cut. What reading leaves, and how large it is; what tokens look like. In plain Lean. Runs of a parser, put together, in plain Lean. What is read of tokens, in plain Lean: statements, programs. Arrays put in order, in plain Lean. -/
import Derived.Test.YtdbnllfjmkmdiaaGreatDoorG4
set_option linter.unusedSimpArgs false
set_option linter.unusedVariables false
namespace Go.T
open Go
set_option linter.unnecessarySimpa false
/-- What a call leaves, seen otherwise. -/
theorem WCall.view {P : Program} {n : FuncId} {args : List AV} {m : Mem} {Q K : AV → Mem → Prop} (h : WCall P n args m Q) (hv : ∀ r m', Q r m' → ∃ r' m'', View m' r m'' r' ∧ K r' m'') : WCall P n args m K :=
 ⟨h.1, fun w S cargs hm hr => calls_mono (h.2 w S cargs hm hr) (by
  rintro e w' ⟨v, r, m', S', he, hq, h1, h2, h3, h4, h5, h6⟩
  obtain ⟨r', m'', hvw, hk⟩ := hv r m' hq
  obtain ⟨S2, k1, k2, k3, k4, k5⟩ := hvw w' S' v h3 h4
  have hdom : ∀ b, m' b ≠ none → m b ≠ none ∨ w.heap.size ≤ b := fun b hb => by
   cases hq2 : m' b with
   | none => exact absurd hq2 hb
   | some x => exact h6 b x hq2
  refine ⟨v, r', m'', S2, he, hk, fun b hb => k1 b (h1 b hb), fun b hb => ?_, k3, k4, h5, fun g b hg => hdom g (k5 g b hg)⟩
  rcases k2 b hb with h | h
  ·exact h2 b h
  ·exact .inr (hdom b h))⟩
theorem WCall.pure {P : Program} {n : FuncId} {args : List AV} {r : AV} (hw : WCall P n args (fun _ => none) fun r' _ => r' = r) : PCall P n args r := by
 refine ⟨hw.1, fun w S cargs m hm hr => ?_⟩
 have hm0 : MemRep w S (fun _ => none) := ⟨(fun g b h => by cases h), fun b hb => ⟨rfl, (hm.apart b hb).2⟩⟩
 refine calls_mono (hw.2 w S cargs hm0 hr) ?_
 rintro e w' ⟨v, r', m', S', rfl, rfl, h1, h2, h3, h4, h5, h6⟩
 have hk : Keep (fun _ => False) w w' := h5.mono (fun b h => absurd rfl h)
 refine ⟨v, S', rfl, h1, fun b hb => (h2 b hb).imp id (fun h => h.elim (fun h => absurd rfl h) id), ⟨fun g b hg => ?_, fun b hb => ?_⟩, h4, hk⟩
 ·have hlt := (hm.blk g b hg).lt
  exact (hm.blk g b hg).mono (fun b' hb' => hk.block b' (hm.apart b' hb').2 id) h1 (hk.block g hlt id)
 ·refine ⟨?_, (h3.apart b hb).2⟩
  rcases h2 b hb with h | h | h
  ·exact (hm.apart b h).1
  ·exact absurd rfl h
  ·cases hq : m b with
   | none => rfl
   | some x => have := (hm.blk b x hq).lt; omega
/-- A call whose answer is its own answers what it looks like. -/
theorem OCall.p {P : Program} {n : FuncId} {args : List AV} {x : AV} (h : OCall P n args x) : PCall P n args x :=
 WCall.pure (WCall.view h fun r m' ⟨F, hO, _, _⟩ => let ⟨m'', hv, _⟩ := hO.view; ⟨x, m'', hv, rfl⟩)
/-- Called with no more than what is told. -/
theorem OCall.w {P : Program} {n : FuncId} {args : List AV} {x : AV} {m : Mem} {K : AV → Mem → Prop} (h : OCall P n args x)
  (hK : ∀ r m' (G : Nat → Prop), Ext m m' → OwnT m' G r x → (∀ g, G g → m g = none) → (∀ g, G g → m' g ≠ none) → K r m') : WCall P n args m K :=
 h.lend (Lent.all args) fun r m' G hE hO hG _ _ => by
  obtain ⟨G', k1, k2, k3⟩ := hO.dom
  exact hK r m' G' hE k1 (fun g hg => hG g (k2 g hg)) k3
theorem own_agg {m : Mem} {F : Nat → Prop} {r : AV} {xs : List AV} (h : OwnT m F r (.agg xs)) : ∃ as, r = .agg as ∧ OwnTs m F as xs ∧ as.all okCell = true := by
 cases h with | agg h k => exact ⟨_, rfl, h, k⟩
/-- A struct that is put together in a box: the first fields are there. -/
structure Cpy (m : Mem) (g1 g2 g3 : Nat) (c1 : List AV) (n : Nat) (cur : List AV) (F : Nat → Prop) (as xs : List AV) : Prop where
 b1 : m g1 = some (.box c1)
 b2 : ∃ c2, m g2 = some (.box c2) ∧ c2.length = n
 b3 : m g3 = some (.box cur)
 tree : OwnTs m F as xs
 ok : as.all okCell = true
 dom : ∀ b, F b → m b ≠ none
 n1 : ¬ F g1
 n2 : ¬ F g2
 n3 : ¬ F g3
theorem Cpy.leaf {m : Mem} {g1 g2 g3 n : Nat} {c1 cur cur' : List AV} {F : Nat → Prop} {as xs : List AV} (h : Cpy m g1 g2 g3 c1 n cur F as xs) (h1 : g3 ≠ g1) (h2 : g3 ≠ g2) {x : AV} (hx : ∀ m F, OwnT m F x x) (hok : okCell x = true) :
  Cpy (m.set g3 (.box cur')) g1 g2 g3 c1 n cur' F (as ++ [x]) (xs ++ [x]) := by
 obtain ⟨c2, k1, k2⟩ := h.b2
 refine ⟨by rw [set_at, if_neg h1.symm]; exact h.b1, ⟨c2, by rw [set_at, if_neg h2.symm]; exact k1, k2⟩, set_same _ _ _, ?_, by simp only [List.all_append, h.ok, List.all_cons, hok, List.all_nil, Bool.and_self], fun b hb => ?_, h.n1, h.n2, h.n3⟩
 ·exact ((h.tree.mem fun b hb => by rw [set_at, if_neg]; rintro rfl; exact h.n3 hb).append (.cons (F := fun _ => False) (A := fun _ => False) (B := fun _ => False) (hx _ _) .nil (fun _ h => h.elim) (fun _ h => h) (fun _ h => h)) (fun _ _ h => h) (fun _ h => h) (fun _ h => h.elim))
 ·rw [set_at]; split
  ·simp
  ·exact h.dom b hb
theorem Cpy.call {m m' : Mem} {g1 g2 g3 n : Nat} {c1 cur cur' : List AV} {F G : Nat → Prop} {as xs rs ys : List AV} (h : Cpy m g1 g2 g3 c1 n cur F as xs) (h1 : g3 ≠ g1) (h2 : g3 ≠ g2) (hE : Ext m m') (hO : OwnTs m' G rs ys) (hok : rs.all okCell = true) (hG : ∀ g, G g → m g = none) (hGd : ∀ g, G g → m' g ≠ none) :
  Cpy (m'.set g3 (.box cur')) g1 g2 g3 c1 n cur' (fun b => F b ∨ G b) (as ++ rs) (xs ++ ys) := by
 obtain ⟨c2, k1, k2⟩ := h.b2
 have f3 : ¬ G g3 := fun hg => by have := hG g3 hg; rw [h.b3] at this; cases this
 have hk : ∀ b, F b → m' b = m b := fun b hb => by
  cases hq : m b with
  | none => exact absurd hq (h.dom b hb)
  | some x => exact hE b x hq
 refine ⟨by rw [set_at, if_neg h1.symm]; exact hE _ _ h.b1, ⟨c2, by rw [set_at, if_neg h2.symm]; exact hE _ _ k1, k2⟩, set_same _ _ _, ?_, by simp only [List.all_append, h.ok, hok, Bool.and_self], fun b hb => ?_, fun hb => hb.elim h.n1 fun hg => (by have := hG _ hg; rw [h.b1] at this; cases this), fun hb => hb.elim h.n2 fun hg => (by have := hG _ hg; rw [k1] at this; cases this), fun hb => hb.elim h.n3 f3⟩
 ·refine (h.tree.mem fun b hb => ?_).append (hO.mem fun b hb => ?_) (fun b hb hg => h.dom b hb (hG b hg)) (fun _ h => .inl h) (fun _ h => .inr h)
  ·rw [set_at, if_neg]
   ·exact hk b hb
   ·rintro rfl; exact h.n3 hb
  ·rw [set_at, if_neg]; rintro rfl; exact f3 hb
 ·rw [set_at]; split
  ·simp
  ·rcases hb with hb | hb
   ·rw [hk b hb]; exact h.dom b hb
   ·exact hGd b hb
theorem Cpy.start {m : Mem} {g1 g2 g3 n : Nat} {c1 c2 cur : List AV} (b1 : m g1 = some (.box c1)) (b2 : m g2 = some (.box c2)) (hn : c2.length = n) (b3 : m g3 = some (.box cur)) : Cpy m g1 g2 g3 c1 n cur (fun _ => False) [] [] :=
 ⟨b1, ⟨c2, b2, hn⟩, b3, .nil, rfl, fun _ h => h.elim, id, id, id⟩
theorem Cpy.done {m : Mem} {g1 g2 g3 n : Nat} {c1 cur : List AV} {F : Nat → Prop} {as xs : List AV} (h : Cpy m g1 g2 g3 c1 n cur F as xs) (b : Blk) : OwnT (m.set g2 b) F (.agg as) (.agg xs) :=
 .agg (h.tree.mem fun b hb => by rw [set_at, if_neg]; rintro rfl; exact h.n2 hb) h.ok
/-- A row that is filled, element by element. -/
structure Fil (m : Mem) (g : Nat) (T : TypeId) (e c : Nat) (i : Nat) (ys : List AV) (F : Nat → Prop) (xs : List AV) : Prop where
 row : m g = some (.arr T e c ys)
 tree : OwnTs m F (ys.take i) xs
 dom : ∀ b, F b → m b ≠ none
 free : ¬ F g
theorem Fil.step {m m' : Mem} {g : Nat} {T : TypeId} {e c i : Nat} {ys : List AV} {F G : Nat → Prop} {xs : List AV} {r x : AV} (h : Fil m g T e c i ys F xs) (hi : i < ys.length) (hE : Ext m m') (hO : OwnT m' G r x) (hG : ∀ g, G g → m g = none) (hGd : ∀ g, G g → m' g ≠ none) :
  Fil (m'.set g (.arr T e c (ys.set i r))) g T e c (i + 1) (ys.set i r) (fun b => F b ∨ G b) (xs ++ [x]) := by
 have fg : ¬ G g := fun hg => by have := hG g hg; rw [h.row] at this; cases this
 have hk : ∀ b, F b → m' b = m b := fun b hb => by
  cases hq : m b with
  | none => exact absurd hq (h.dom b hb)
  | some x => exact hE b x hq
 have ht : (ys.set i r).take (i + 1) = ys.take i ++ [r] := by
  rw [List.take_add_one, List.take_set_of_le (Nat.le_refl _), List.getElem?_set_self (by omega)]; rfl
 refine ⟨set_same _ _ _, ?_, fun b hb => ?_, fun hb => hb.elim h.free fg⟩
 ·rw [ht]
  refine (h.tree.mem fun b hb => ?_).snoc (hO.mem fun b hb => ?_) (fun b hb hg => h.dom b hb (hG b hg))
  ·rw [set_at, if_neg]
   ·exact hk b hb
   ·rintro rfl; exact h.free hb
  ·rw [set_at, if_neg]; rintro rfl; exact fg hb
 ·rw [set_at]; split
  ·simp
  ·rcases hb with hb | hb
   ·rw [hk b hb]; exact h.dom b hb
   ·exact hGd b hb
theorem Fil.done {m : Mem} {g : Nat} {T : TypeId} {e c n : Nat} {ys : List AV} {F : Nat → Prop} {xs : List AV} (h : Fil m g T e c n ys F xs) (hn : ys.length = n) : OwnT m (fun b => F b ∨ b = g) (.own g n c) (.lst false e xs) := by
 have ht := h.tree
 rw [List.take_of_length_le (by omega)] at ht
 exact .own h.row hn ht h.free (fun _ h => .inl h) (.inr rfl)
theorem OwnTs.one {m : Mem} {F : Nat → Prop} {a x : AV} (h : OwnT m F a x) : OwnTs m F [a] [x] :=
 .cons (A := F) (B := fun _ => False) h .nil (fun _ _ h => h) (fun _ h => h) (fun _ h => h.elim)
/-- A cell that is a row is written by a call. -/
theorem OwnTs.call {m : Mem} {F : Nat → Prop} {as xs : List AV} (h : OwnTs m F as xs) {o : Nat} (ho : o < as.length) : ∃ (A : Nat → Prop) (x : AV), xs[o]? = some x ∧ OwnT m A as[o] x ∧ (∀ b, A b → F b) ∧
  ∀ m' x', (∀ b, ¬ A b → m' b = m b) → OwnT m' A as[o] x' → OwnTs m' F as (xs.set o x') := by
 obtain ⟨A, A', C, x, e1, e2, e3, e4, e5, e6⟩ := h.at ho
 refine ⟨A', x, e1, e2, e5, fun m' x' hm k => ?_⟩
 have := e6 m' as[o] x' A' (fun b hb => hm b (e3 b hb)) k (fun _ h => h)
 simpa using this
theorem Held.int_inv {b : Int} {as : List AV} {k k' : Int} (h : Held (.int .i64 b :: as) k k') : b = k ∧ Held as (k + 1) k' := by cases h with | int h => exact ⟨rfl, h⟩
theorem Held.str_inv {b : ByteArray} {as : List AV} {k k' : Int} (h : Held (.str b :: as) k k') : b = markT k ∧ Held as (k + 1) k' := by cases h with | str h => exact ⟨rfl, h⟩
theorem Held.lst_inv {f : Bool} {e : Nat} {xs as : List AV} {k k' : Int} (h : Held (.lst f e xs :: as) k k') : ∃ k1, Held xs k k1 ∧ Held as k1 k' := by cases h with | lst h1 h2 => exact ⟨_, h1, h2⟩
theorem Held.agg_inv {cs as : List AV} {k k' : Int} (h : Held (.agg cs :: as) k k') : ∃ k1, Held cs k k1 ∧ Held as k1 k' := by cases h with | agg h1 h2 => exact ⟨_, h1, h2⟩
theorem Held.nil_inv {k k' : Int} (h : Held [] k k') : k' = k := by cases h; rfl
theorem Held.le {as : List AV} {k k' : Int} (h : Held as k k') : k ≤ k' := by have := h.count; omega
theorem OwnTs.same {m : Mem} {F : Nat → Prop} {as : List AV} (h : ∀ a ∈ as, ∀ F, OwnT m F a a) : OwnTs m F as as := by
 induction as generalizing F with
 | nil => exact .nil
 | cons a as ih => exact .cons (A := fun _ => False) (B := F) (h a (List.mem_cons_self ..) _) (ih fun b hb => h b (List.mem_cons_of_mem _ hb)) (fun _ h => h.elim) (fun _ h => h.elim) (fun _ h => h)
/-- A row of one's own that grows. -/
def GrowO (E : TypeId) (n : Nat) (m : Mem) (F : Nat → Prop) (v : AV) (xs : List AV) : Prop :=
 (v = .lst true 0 [] ∧ xs = []) ∨ ∃ (g c : Nat) (ys : List AV) (G : Nat → Prop), v = .own g ys.length c ∧ m g = some (.arr E n c ys) ∧ OwnTs m G ys xs ∧ ¬ G g ∧ (∀ b, G b → F b) ∧ F g
theorem GrowO.own {E : TypeId} {n : Nat} {m : Mem} {F : Nat → Prop} {v : AV} {xs : List AV} (h : GrowO E n m F v xs) : OwnT m F v (.lst false n xs) := by
 rcases h with ⟨rfl, rfl⟩ | ⟨g, c, ys, G, rfl, h1, h2, h3, h4, h5⟩
 ·exact .nil _ _ _
 ·exact .own h1 rfl h2 h3 h4 h5
theorem GrowO.mem {E : TypeId} {n : Nat} {m m' : Mem} {F : Nat → Prop} {v : AV} {xs : List AV} (h : GrowO E n m F v xs) (hm : ∀ b, F b → m' b = m b) : GrowO E n m' F v xs := by
 rcases h with ⟨rfl, rfl⟩ | ⟨g, c, ys, G, rfl, h1, h2, h3, h4, h5⟩
 ·exact .inl ⟨rfl, rfl⟩
 ·exact .inr ⟨g, c, ys, G, rfl, (hm _ h5).trans h1, h2.mem fun b hb => hm b (h4 b hb), h3, h4, h5⟩
theorem GrowO.app {P : Program} {T E : TypeId} {n b : Nat} (hT : ElemT P T E n b) {m : Mem} {F A : Nat → Prop} {v a x : AV} {xs : List AV} (h : GrowO E n m F v xs) (hF : ∀ b, F b → m b ≠ none) (ha : OwnT m A a x) (hA : ∀ b, A b → m b ≠ none) (hd : ∀ b, F b → ¬ A b)
  (hok : a.cells.all okCell = true) (hl : a.cells.length = n) (hb : (2 * (xs.length + 1) + 1024) * b ≤ 281474976710656) {k : AV → Mem → Prop}
  (hk : ∀ v' m' F', GrowO E n m' F' v' (xs ++ [x]) → (∀ b, m b ≠ none → ¬ F b → m' b = m b) → (∀ b, F' b → F b ∨ A b ∨ m b = none) → (∀ b, F' b → m' b ≠ none) → k v' m') : appendW P m k #[T, T] v (.lst true n [a]) := by
 obtain ⟨z, hz, hzl⟩ := hT.zero
 unfold appendW
 simp only [List.getElem?_toArray, List.getElem?_cons_zero, List.getElem?_cons_succ, hT.int, hT.elem, hT.size, hT.byte, hz, srcA, true_and, if_true]
 refine ⟨hT.pos.1, hT.pos.2, hzl, ?_⟩
 have hset : ∀ (g : Nat) (bl : Blk) b, b ≠ g → (m.set g bl) b = m b := fun g bl b hb => Mem.set_other hb
 have hsm : ∀ (g : Nat) (bl : Blk) b, (b = g ∨ m b ≠ none) → (m.set g bl) b ≠ none := fun g bl b hb => by
  rw [set_at]; split
  ·simp
  ·rename_i hne; exact hb.elim (fun h => absurd h hne) id
 rcases h with ⟨rfl, rfl⟩ | ⟨g, c, ys, G, rfl, h1, h2, h3, h4, h5⟩
 ·refine ⟨.inr rfl, by simpa using hb, fun h0 => by simp at h0, fun _ g c hg hle => ?_⟩
  have hgA : ¬ A g := fun hq => hA g hq hg
  refine hk _ _ (fun b => A b ∨ b = g) (.inr ⟨g, c, [a], A, rfl, set_same _ _ _, ?_, hgA, fun _ h => .inl h, .inr rfl⟩) (fun b hb _ => hset _ _ _ (fun e => hb (e ▸ hg))) (fun b hb => hb.elim (fun h => .inr (.inl h)) (fun h => .inr (.inr (h ▸ hg)))) fun b hb => hsm _ _ _ (hb.elim (fun h => .inr (hA b h)) .inl)
  exact .one (ha.mem fun b hb => hset _ _ _ (fun (e : b = g) => hgA (e ▸ hb)))
 ·simp only [h1]
  have hlen : ys.length = xs.length := h2.len
  refine ⟨trivial, trivial, trivial, by simpa using hl, by simpa using hok, by rw [hlen]; simpa using hb, fun g' c' hg' hle => ?_⟩
  have hgA : ¬ A g' := fun hq => by
   rcases hg' with rfl | hn
   ·exact hd _ h5 hq
   ·exact hA g' hq hn
  have hgG : ¬ G g' := fun hq => by
   rcases hg' with rfl | hn
   ·exact h3 hq
   ·exact hF g' (h4 g' hq) hn
  refine hk _ _ (fun b => (G b ∨ A b) ∨ b = g') (.inr ⟨g', c', ys ++ [a], fun b => G b ∨ A b, by simp, by simp [set_same], ?_, fun hq => hq.elim hgG hgA, fun _ h => .inl h, .inr rfl⟩) (fun b hb hnF => hset _ _ _ (fun e => ?_)) (fun b hb => ?_) fun b hb => hsm _ _ _ ?_
  ·exact (h2.mem (m' := m.set g' (.arr E n c' (ys ++ [a]))) fun b hb => hset _ _ _ (fun (e : b = g') => hgG (e ▸ hb))).snoc (ha.mem (m' := m.set g' (.arr E n c' (ys ++ [a]))) fun b hb => hset _ _ _ (fun (e : b = g') => hgA (e ▸ hb))) (fun b hb hq => hd b (h4 b hb) hq)
  ·subst e
   rcases hg' with rfl | hn
   ·exact hnF h5
   ·exact hb hn
  ·rcases hb with (hb | hb) | rfl
   ·exact .inl (h4 b hb)
   ·exact .inr (.inl hb)
   ·rcases hg' with rfl | hn
    ·exact .inl h5
    ·exact .inr (.inr hn)
  ·rcases hb with (hb | hb) | hb
   ·exact .inr (hF b (h4 b hb))
   ·exact .inr (hA b hb)
   ·exact .inl hb
theorem ext_at {m m' : Mem} (h : Ext m m') {g : Nat} (hg : m g ≠ none) : m' g = m g := by
 cases hq : m g with
 | none => exact absurd hq hg
 | some b => exact h g b hq
theorem OwnT.ext {m m' : Mem} {F : Nat → Prop} {a x : AV} (h : OwnT m F a x) (hd : ∀ b, F b → m b ≠ none) (hE : Ext m m') : OwnT m' F a x := h.mem fun b hb => ext_at hE (hd b hb)
theorem ext_set {m : Mem} {g : Nat} (hg : m g = none) (b : Blk) : Ext m (m.set g b) := (Ext.refl m).set hg b
theorem Ext.trans {a b c : Mem} (h : Ext a b) (k : Ext b c) : Ext a c := fun g x hx => k g x (h g x hx)
end Go.T
namespace Go.T
open Go
/-- Boxes that are none of F's stay. -/
def Upd (F : Nat → Prop) (m m' : Mem) : Prop := ∀ g cs, ¬ F g → m g = some (.box cs) → m' g = some (.box cs)
theorem Upd.refl (F : Nat → Prop) (m : Mem) : Upd F m m := fun _ _ _ h => h
theorem Upd.trans {F : Nat → Prop} {a b c : Mem} (h : Upd F a b) (k : Upd F b c) : Upd F a c := fun g cs hg hx => k g cs hg (h g cs hg hx)
theorem Upd.ext {F : Nat → Prop} {a b : Mem} (h : Ext a b) : Upd F a b := fun g cs _ hx => h g _ hx
theorem Upd.set {F : Nat → Prop} {m : Mem} {g : Nat} (hg : m g = none) (b : Blk) : Upd F m (m.set g b) := .ext (ext_set hg b)
theorem Upd.put {F : Nat → Prop} {m : Mem} {g : Nat} (hg : F g) (b : Blk) : Upd F m (m.set g b) := fun k cs hk hx => by
 rw [set_at, if_neg]
 ·exact hx
 ·rintro rfl; exact hk hg
/-- A row that grows: nothing yet, or a block of its own beside m0. -/
def Gr (T : TypeId) (e : Nat) (m0 : Mem) (xs : List AV) (v : AV) (m : Mem) : Prop := Ext m0 m ∧ ((xs = [] ∧ ∃ f, v = .lst true f []) ∨ ∃ g c, v = .own g xs.length c ∧ m g = some (.arr T e c xs) ∧ m0 g = none)
theorem Gr.gs {T : TypeId} {e : Nat} {m0 m : Mem} {xs : List AV} {v : AV} (h : Gr T e m0 xs v m) : Grows T e m0 xs v m := by
 obtain ⟨hE, ⟨rfl, f, rfl⟩ | ⟨g, c, rfl, h1, h2⟩⟩ := h
 ·exact .lit f m (.inr rfl) hE
 ·exact .own g c _ m rfl h1 h2 hE
theorem Gr.ok {T : TypeId} {e : Nat} {m0 m : Mem} {xs : List AV} {v : AV} (h : Gr T e m0 xs v m) : v.cells = [v] ∧ okCell v = true ∧ v ≠ .undef := by
 obtain ⟨hE, ⟨rfl, f, rfl⟩ | ⟨g, c, rfl, h1, h2⟩⟩ := h <;> exact ⟨rfl, rfl, by simp⟩
theorem Gr.start {T : TypeId} {e : Nat} (m : Mem) (f : Nat) : Gr T e m [] (.lst true f []) m := ⟨Ext.refl m, .inl ⟨rfl, f, rfl⟩⟩
theorem Gr.mono {T : TypeId} {e : Nat} {m0 m1 m : Mem} {xs : List AV} {v : AV} (h : Gr T e m1 xs v m) (he : Ext m0 m1) : Gr T e m0 xs v m := by
 obtain ⟨hE, h⟩ := h
 refine ⟨he.trans hE, h.imp id ?_⟩
 rintro ⟨g, c, h1, h2, h3⟩
 exact ⟨g, c, h1, h2, he.none h3⟩
theorem Gr.fresh {T : TypeId} {e : Nat} {m0 m : Mem} {xs : List AV} {v : AV} (h : Gr T e m0 xs v m) {g : Nat} (hg : m g = none) (b : Blk) : Gr T e m0 xs v (m.set g b) := by
 obtain ⟨hE, h⟩ := h
 refine ⟨hE.trans (ext_set hg b), h.imp id ?_⟩
 rintro ⟨g', c, h1, h2, h3⟩
 refine ⟨g', c, h1, ?_, h3⟩
 rw [set_at, if_neg]
 ·exact h2
 ·rintro rfl; rw [hg] at h2; cases h2
theorem Gr.ext {T : TypeId} {e : Nat} {m0 m m' : Mem} {xs : List AV} {v : AV} (h : Gr T e m0 xs v m) (hE : Ext m m') : Gr T e m0 xs v m' := by
 obtain ⟨h0, h⟩ := h
 exact ⟨h0.trans hE, h.imp id fun ⟨g, c, h1, h2, h3⟩ => ⟨g, c, h1, hE g _ h2, h3⟩⟩
theorem Gr.app {P : Program} {T E : TypeId} {n b : Nat} (hT : ElemT P T E n b) {m0 m : Mem} {xs ys : List AV} {v x : AV} (h : Gr E n m0 xs v m) (hx : srcA m n x = some ys) (hok : ∀ y ∈ ys, y.cells.all okCell = true) (hb : (2 * (xs.length + ys.length) + 1024) * b ≤ 281474976710656)
  {k : AV → Mem → Prop} (hk : ∀ v' m', Gr E n m0 (xs ++ ys) v' m' → (∀ g cs, m g = some (.box cs) → m' g = some (.box cs)) → k v' m') : appendW P m k #[T, T] v x := by
 obtain ⟨z, hz, hzl⟩ := hT.zero
 unfold appendW
 simp only [List.getElem?_toArray, List.getElem?_cons_zero, List.getElem?_cons_succ, hT.int, hT.elem, hT.size, hT.byte, hz, hx, true_and]
 refine ⟨hT.pos.1, hT.pos.2, hzl, ?_⟩
 have hset : ∀ (g' : Nat) (bl : Blk), (∀ cs, m g' ≠ some (.box cs)) → ∀ g cs, m g = some (.box cs) → (m.set g' bl) g = some (.box cs) := fun g' bl hg' g cs hgc => by
  rw [set_at, if_neg]
  ·exact hgc
  ·rintro rfl; exact hg' cs hgc
 obtain ⟨hE, ⟨rfl, f, rfl⟩ | ⟨g, c, rfl, h1, h2⟩⟩ := h
 ·refine ⟨.inr rfl, by simpa using hb, fun h0 => ?_, fun _ g c hg hle => ?_⟩
  ·refine hk _ _ ⟨hE, .inl ⟨?_, f, rfl⟩⟩ (fun _ _ h => h)
   simpa using h0
  ·refine hk _ _ ⟨hE.set (hE.none hg) _, .inr ⟨g, c, by simp, by simp [set_same], hE.none hg⟩⟩ (hset _ _ fun cs h => by rw [hg] at h; cases h)
 ·simp only [h1]
  refine ⟨trivial, trivial, trivial, trivial, hok, hb, fun g' c' hg' hle => ?_⟩
  have hg0 : m0 g' = none := by
   rcases hg' with rfl | h
   ·exact h2
   ·exact hE.none h
  refine hk _ _ ⟨hE.set hg0 _, .inr ⟨g', c', by simp, set_same _ _ _, hg0⟩⟩ (hset _ _ fun cs h => ?_)
  rcases hg' with rfl | hn
  ·rw [h1] at h; cases h
  ·rw [hn] at h; cases h
/-- It is one's own, its elements being plain. -/
theorem Gr.own {T : TypeId} {e : Nat} {m0 m : Mem} {xs : List AV} {v : AV} (h : Gr T e m0 xs v m) (hp : ∀ a ∈ xs, ∀ F, OwnT m F a a) : ∃ F : Nat → Prop, OwnT m F v (.lst false e xs) ∧ (∀ g, F g → m0 g = none) ∧ ∀ g, F g → m g ≠ none := by
 obtain ⟨hE, ⟨rfl, f, rfl⟩ | ⟨g, c, rfl, h1, h2⟩⟩ := h
 ·exact ⟨fun _ => False, .nil _ _ _, fun _ h => h.elim, fun _ h => h.elim⟩
 ·exact ⟨fun b => b = g, .own (G := fun _ => False) h1 rfl (OwnTs.same hp) id (fun _ h => h.elim) rfl, fun b hb => hb ▸ h2, fun b hb => by rw [hb, h1]; simp⟩
theorem Gr.view {T : TypeId} {e : Nat} {m0 m : Mem} {xs : List AV} {v : AV} (h : Gr T e m0 xs v m) : View m v m0 (.lst false e xs) := h.gs.view
end Go.T
namespace Go.T
open Go
/-- Boxes and trees of one's own, apart from each other. -/
structure Hold (m : Mem) (bs : List (Nat × List AV)) (ts : List ((Nat → Prop) × AV × AV)) : Prop where
 box : ∀ p ∈ bs, m p.1 = some (.box p.2)
 tree : ∀ t ∈ ts, OwnT m t.1 t.2.1 t.2.2
 dom : ∀ t ∈ ts, ∀ b, t.1 b → m b ≠ none
 nb : ∀ t ∈ ts, ∀ p ∈ bs, ¬ t.1 p.1
 dis : ts.Pairwise fun a b => ∀ g, a.1 g → ¬ b.1 g
variable {m m' : Mem} {bs : List (Nat × List AV)} {ts : List ((Nat → Prop) × AV × AV)}
theorem Hold.nil (m : Mem) : Hold m [] [] := ⟨by simp, by simp, by simp, by simp, .nil⟩
theorem Hold.ext (h : Hold m bs ts) (hE : Ext m m') : Hold m' bs ts :=
 ⟨fun p hp => hE _ _ (h.box p hp), fun t ht => (h.tree t ht).ext (h.dom t ht) hE, fun t ht b hb => by rw [ext_at hE (h.dom t ht b hb)]; exact h.dom t ht b hb, h.nb, h.dis⟩
def BIG : Int := 4611686018427387904
/-- What marking comes to: of what looks as x, of c cells. -/
def MarkC (P : Program) (n : FuncId) {X : Type} (look : X → AV) (H : X → Int → Int → Prop) (x : X) (c : Nat) : Prop :=
 ∀ (m : Mem) (F : Nat → Prop) (v : AV), OwnT m F v (look x) → ∀ k : Int, 0 < k → k + (c : Int) ≤ BIG → ∀ K : AV → Mem → Prop,
  (∀ m' x', (∀ b y, ¬ F b → m b = some y → m' b = some y) → OwnT m' F v (look x') → H x' k (k + (c : Int)) → K (.int .i64 (k + (c : Int))) m') → WCall P n [v, .int .i64 k] m K
/-- What the look at marks comes to. -/
def HeldC (P : Program) (n : FuncId) {X : Type} (look : X → AV) (H : X → Int → Int → Prop) : Prop :=
 ∀ (x : X) (k k' : Int), 0 < k → k' ≤ BIG → H x k k' → PCall P n [look x, .int .i64 k] (.int .i64 k')
theorem OwnTs.split {F : Nat → Prop} : ∀ {as bs xs : List AV}, OwnTs m F (as ++ bs) xs → ∃ (A B : Nat → Prop) (us ws : List AV), xs = us ++ ws ∧ us.length = as.length ∧ OwnTs m A as us ∧ OwnTs m B bs ws ∧ (∀ g, A g → ¬ B g) ∧ (∀ g, A g → F g) ∧ ∀ g, B g → F g
 | [], bs, xs, h => ⟨fun _ => False, F, [], xs, rfl, rfl, .nil, h, fun _ h => h.elim, fun _ h => h.elim, fun _ h => h⟩
 | a :: as, bs, xs, h => by
  cases h with | @cons _ A1 A2 _ x _ xs h1 h2 h3 h4 h5 =>
  obtain ⟨A, B, us, ws, rfl, hl, k1, k2, k3, k4, k5⟩ := OwnTs.split (as := as) (bs := bs) h2
  exact ⟨fun g => A1 g ∨ A g, B, x :: us, ws, rfl, by simp [hl], .cons h1 k1 (fun g hg hq => h3 g hg (k4 g hq)) (fun g h => .inl h) (fun g h => .inr h), k2, fun g hg hq => hg.elim (fun h => h3 g h (k5 g hq)) (fun h => k3 g h hq), fun g hg => hg.elim (h4 g) (fun h => h5 g (k4 g h)), fun g hg => h5 g (k5 g hg)⟩
/-- Some of the cells, as a struct; they may be written. -/
theorem OwnTs.part {F : Nat → Prop} {a b c xs : List AV} (h : OwnTs m F (a ++ (b ++ c)) xs) (hok : b.all okCell = true) : ∃ (B : Nat → Prop) (x y z : List AV), xs = x ++ (y ++ z) ∧ x.length = a.length ∧ y.length = b.length ∧ OwnT m B (.agg b) (.agg y) ∧ (∀ g, B g → F g) ∧
  ∀ m' y', (∀ g w, ¬ B g → m g = some w → m' g = some w) → OwnT m' B (.agg b) (.agg y') → (∀ g, F g → m g ≠ none) → OwnTs m' F (a ++ (b ++ c)) (x ++ (y' ++ z)) := by
 obtain ⟨A, R, x, r, rfl, hl, h1, h2, d1, s1, s2⟩ := OwnTs.split h
 obtain ⟨B, C, y, z, rfl, hl2, h3, h4, d2, s3, s4⟩ := OwnTs.split h2
 refine ⟨B, x, y, z, rfl, hl, hl2, .agg h3 hok, fun g hg => s2 g (s3 g hg), fun m' y' ho hO hdm => ?_⟩
 obtain ⟨bs, e, hy, _⟩ := own_agg hO
 cases e
 have keep : ∀ g, F g → ¬ B g → m' g = m g := fun g hF hB => by
  cases hq : m g with
  | none => exact absurd hq (hdm g hF)
  | some w => exact ho g w hB hq
 refine (h1.mem fun g hg => keep g (s1 g hg) fun hB => d1 g hg (s3 g hB)).append (hy.append (h4.mem fun g hg => keep g (s2 g (s4 g hg)) fun hB => d2 g hB hg) d2 (fun g hg => s3 g hg) (fun g hg => s4 g hg)) d1 s1 s2
end Go.T
namespace Go.T
open Go
variable {m m' : Mem}
/-- A row of rows' look is the row's. -/
theorem MarkC.le {P : Program} {n : FuncId} {X : Type} {look : X → AV} {H : X → Int → Int → Prop} {x : X} {c : Nat} (h : MarkC P n look H x c) : MarkC P n look H x c := h
end Go.T
namespace Go.T
open Go
theorem Gr.keep {T : TypeId} {e : Nat} {m0 m m' : Mem} {xs : List AV} {v : AV} (h : Gr T e m0 xs v m) (h0 : Ext m0 m') (hk : ∀ g, m g ≠ none → (∀ cs, m g ≠ some (.box cs)) → m' g = m g) : Gr T e m0 xs v m' := by
 obtain ⟨_, h⟩ := h
 refine ⟨h0, h.imp id ?_⟩
 rintro ⟨g, c, h1, h2, h3⟩
 exact ⟨g, c, h1, by rw [hk g (by rw [h2]; simp) (by intro cs; rw [h2]; simp)]; exact h2, h3⟩
/-- A row that a box holds is not written any more. -/
theorem Sees.freezeIn {s : St} {gm i g n c e : Nat} {T : TypeId} {xs cs : List AV} (h1 : s.mem gm = some (.box cs)) (h2 : cs[i]? = some (.own g n c)) (h3 : s.mem g = some (.arr T e c xs)) (h4 : xs.length = n) : Sees s ⟨s.slots, (s.mem.del g).set gm (.box (cs.set i (.lst false e xs)))⟩ := fun w S f hm hs => by
 have hne : g ≠ gm := by rintro rfl; rw [h1] at h3; cases h3
 obtain ⟨vs, us, hb, hr, hl, he, hle⟩ := hm.blk g _ h3
 obtain ⟨T', ws, hb', hr'⟩ := hm.blk gm _ h1
 have hSS : ∀ b, S b → S b ∨ b = g := fun b hb => .inl hb
 have hst : Stays S w w := fun _ _ => rfl
 refine ⟨fun b => S b ∨ b = g, hSS, fun b hb => hb.imp id (fun h => by rw [h, h3]; simp), ⟨fun g' b hg' => ?_, fun b hb => ?_⟩, fun t => (hs t).mono hst hSS, fun g' b hg' => ?_⟩
 ·by_cases hgm : g' = gm
  ·subst hgm
   simp only [set_same, Option.some.injEq] at hg'
   subst hg'
   obtain ⟨v, hv, hrv⟩ := hr'.get i _ h2
   refine ⟨T', ws, hb', ?_⟩
   have hset := (hr'.mono hst hSS).set i (a := .lst false e xs) (v := v) ?_
   ·have : ws.set i v = ws := by
     apply List.ext_getElem?
     intro j
     by_cases hj : j = i
     ·subst hj
      have hlt := (List.getElem?_eq_some_iff.1 hv).1
      rw [List.getElem?_set_self hlt, hv]
     ·rw [List.getElem?_set_ne (Ne.symm hj)]
    rw [this] at hset
    exact hset
   ·cases hrv
    subst h4
    exact .lst false e g 0 c (.inr rfl) he hle (fun h => by cases h) (Cells.of_block hb (hr.mono hst hSS) 0 (fun i v hv => by
     have : i < vs.length := (List.getElem?_eq_some_iff.1 hv).1
     simp [List.getElem?_append_left this, hv]))
  ·dsimp only at hg'
   rw [Mem.set_other hgm] at hg'
   unfold Mem.del at hg'
   split at hg'
   ·cases hg'
   ·exact (hm.blk g' b hg').mono hst hSS rfl
 ·rcases hb with hb | rfl
  ·refine ⟨?_, (hm.apart b hb).2⟩
   have := (hm.apart b hb).1
   dsimp only
   rw [set_at]
   split
   ·rename_i e; subst e; rw [h1] at this; cases this
   ·unfold Mem.del; split
    ·rfl
    ·exact this
  ·refine ⟨?_, (Array.getElem?_eq_some_iff.1 hb).1⟩
   dsimp only
   rw [Mem.set_other hne]
   simp [Mem.del]
 ·by_cases hgm : g' = gm
  ·subst hgm; rw [h1]; simp
  ·dsimp only at hg'
   rw [Mem.set_other hgm] at hg'
   unfold Mem.del at hg'
   split at hg'
   ·cases hg'
   ·rw [hg']; simp
/-- A box's cells seen as others. -/
theorem Sees.boxLe {s : St} {gm : Nat} {cs cs' : List AV} (h1 : s.mem gm = some (.box cs)) (h : Les cs cs') : Sees s ⟨s.slots, s.mem.set gm (.box cs')⟩ := fun w S f hm hs => by
 refine ⟨S, fun _ h => h, fun _ h => .inl h, ⟨fun g b hg => ?_, fun b hb => ?_⟩, hs, fun g b hg => ?_⟩
 ·by_cases hgm : g = gm
  ·subst hgm
   simp only [set_same, Option.some.injEq] at hg
   subst hg
   obtain ⟨T, vs, k1, k2⟩ := hm.blk g _ h1
   exact ⟨T, vs, k1, h.reps k2⟩
  ·dsimp only at hg; rw [Mem.set_other hgm] at hg; exact hm.blk g b hg
 ·refine ⟨?_, (hm.apart b hb).2⟩
  dsimp only
  rw [set_at]
  split
  ·rename_i e; subst e; have := (hm.apart b hb).1; rw [h1] at this; cases this
  ·exact (hm.apart b hb).1
 ·by_cases hgm : g = gm
  ·subst hgm; rw [h1]; simp
  ·dsimp only at hg; rw [Mem.set_other hgm] at hg; rw [hg]; simp
end Go.T
namespace Go.T
end Go.T
namespace Go.T
@[simp] theorem cells_ref (cs : List AV) : (AV.ref cs).cells = [.ref cs] := (_root_.id rfl)
@[simp] theorem cells_nilp : AV.nilp.cells = [.nilp] := (_root_.id rfl)
@[simp] theorem cells_elt (g e i o : Nat) : (AV.elt g e i o).cells = [.elt g e i o] := (_root_.id rfl)
end Go.T
namespace Go.T
open Go
/-- What looks so is so. -/
def Leafy (x : AV) : Prop := ∀ (m : Mem) (F : Nat → Prop) (y : AV), OwnT m F y x → y = x
theorem leafy_cons {m : Mem} {F : Nat → Prop} {ys xs : List AV} (h : OwnTs m F ys xs) (hl : ∀ x ∈ xs, Leafy x) : ys = xs := by
 induction xs generalizing ys F with
 | nil => cases h; rfl
 | cons x xs ih =>
  cases h with | cons h1 h2 _ _ _ =>
  rw [hl x (List.mem_cons_self ..) _ _ _ h1, ih h2 fun y hy => hl y (List.mem_cons_of_mem _ hy)]
theorem GrowO.leaf {E : TypeId} {n : Nat} {m : Mem} {F : Nat → Prop} {v : AV} {xs : List AV} (h : GrowO E n m F v xs) (hl : ∀ x ∈ xs, Leafy x) : (v = .lst true 0 [] ∧ xs = []) ∨ ∃ g c, v = .own g xs.length c ∧ m g = some (.arr E n c xs) ∧ F g := by
 rcases h with h | ⟨g, c, ys, G, rfl, h1, h2, h3, h4, h5⟩
 ·exact .inl h
 ·have := leafy_cons h2 hl
  subst this
  exact .inr ⟨g, c, rfl, h1, h5⟩
/-- A row has room for what it holds. -/
theorem AWp.len {P : Program} {N : Nat} {code : Code} {Q : Exit → St → Prop} {s : St} {g c e : Nat} {T : TypeId} {xs : List AV} (hg : s.mem g = some (.arr T e c xs)) (h : xs.length ≤ c → AWp P N code Q s) : AWp P N code Q s := fun C a w hr hN => by
 obtain ⟨S, _, hm, _⟩ := hr.ex
 obtain ⟨vs, us, _, _, _, _, h5⟩ := hm.blk g _ hg
 exact h h5 C a w hr hN
end Go.T
namespace Go.T
open Go
/-- A token as the lexer makes them. -/
structure Tk.fine (t : Tk) : Prop where
 mark : t.k = 4 → t.s.size = 1
 word : t.k = 3 → kept t.s = true
 len : t.s.size ≤ 6
 num : 0 ≤ t.n ∧ t.n ≤ 999999
def Tk.w (t : Tk) : Nat := t.s.size + 2
def W (ts : List Tk) : Nat := (ts.map Tk.w).sum
theorem W_cons (t : Tk) (ts : List Tk) : W (t :: ts) = t.s.size + 2 + W ts := by simp [W, Tk.w]
theorem W_le : ∀ ts : List Tk, (∀ t ∈ ts, t.fine) → W ts ≤ 8 * ts.length
 | [], _ => by simp [W]
 | t :: ts, h => by
  have h1 := W_le ts fun x hx => h x (List.mem_cons_of_mem _ hx)
  have h2 := (h t (List.mem_cons_self ..)).len
  rw [W_cons, List.length_cons]
  omega
/-- What is read: less is left, and it is no larger than what it is read of. -/
def Fit (f : PE) : Prop := ∀ ts e r, f ts = some (e, r) → r <:+ ts ∧ r.length < ts.length ∧ e.tot + W r ≤ W ts
theorem tkS_some {k : Int} {s : ByteArray} {ts r : List Tk} (h : tkS k s ts = some r) : ∃ t, ts = t :: r ∧ t.is k s = true := by
 cases ts with
 | nil => cases h
 | cons t l =>
  simp only [tkS] at h
  split at h
  ·rename_i hi
   cases h
   exact ⟨t, rfl, hi⟩
  ·cases h
theorem suf_cons {t : Tk} {r ts : List Tk} (h : t :: r <:+ ts) : r <:+ ts := (List.suffix_cons t r).trans h
theorem tot_two (k : Int) (a b : Ex) : (two k a b).tot = a.tot + b.tot + 2 := by
 unfold two
 rw [Ex.tot_mk]
 simp only [totL]
 have : (⟨#[]⟩ : ByteArray).size = 0 := rfl
 omega
theorem pair_fit {sub : PE} (hs : Fit sub) {k : Int} {ts : List Tk} {e : Ex} {r : List Tk} (h : pairP sub k ts = some (e, r)) : r <:+ ts ∧ r.length < ts.length ∧ e.tot + W r ≤ W ts := by
 simp only [pairP] at h
 obtain ⟨t1, h1, h⟩ := Option.bind_eq_some_iff.1 h
 obtain ⟨⟨a, t2⟩, h2, h⟩ := Option.bind_eq_some_iff.1 h
 obtain ⟨t3, h3, h⟩ := Option.bind_eq_some_iff.1 h
 obtain ⟨⟨b, t4⟩, h4, h⟩ := Option.bind_eq_some_iff.1 h
 obtain ⟨t5, h5, h⟩ := Option.bind_eq_some_iff.1 h
 cases h
 obtain ⟨x1, rfl, _⟩ := tkS_some h1
 obtain ⟨p1, p2, p3⟩ := hs _ _ _ h2
 obtain ⟨x3, rfl, _⟩ := tkS_some h3
 obtain ⟨q1, q2, q3⟩ := hs _ _ _ h4
 try dsimp only at q1 q2 q3
 obtain ⟨x5, rfl, _⟩ := tkS_some h5
 simp only [List.length_cons, W_cons, tot_two] at *
 exact ⟨(suf_cons q1).trans ((suf_cons p1).trans (List.suffix_cons _ _)), by omega, by omega⟩
theorem atom_fit {sub : PE} (hs : Fit sub) : Fit (atomP sub) := by
 intro ts e r h
 cases ts with
 | nil => cases h
 | cons t l =>
  simp only [atomP] at h
  split at h
  ·cases h
   refine ⟨List.suffix_cons _ _, by simp, ?_⟩
   rw [Ex.tot_mk, W_cons]
   simp only [totL]
   have : (⟨#[]⟩ : ByteArray).size = 0 := rfl
   omega
  ·split at h
   ·split at h
    ·cases h
     refine ⟨List.suffix_cons _ _, by simp, ?_⟩
     rw [Ex.tot_mk, W_cons]
     simp only [totL]
     omega
    ·rename_i r1 h1
     obtain ⟨⟨a, t2⟩, h2, h⟩ := Option.bind_eq_some_iff.1 h
     obtain ⟨t3, h3, h⟩ := Option.bind_eq_some_iff.1 h
     cases h
     obtain ⟨x1, rfl, _⟩ := tkS_some h1
     obtain ⟨p1, p2, p3⟩ := hs _ _ _ h2
     obtain ⟨x3, rfl, _⟩ := tkS_some h3
     simp only [List.length_cons, W_cons, Ex.tot_mk, totL] at *
     exact ⟨(suf_cons p1).trans ((List.suffix_cons _ _).trans (List.suffix_cons _ _)), by omega, by omega⟩
   ·split at h
    ·obtain ⟨⟨a, t2⟩, h2, h⟩ := Option.bind_eq_some_iff.1 h
     obtain ⟨t3, h3, h⟩ := Option.bind_eq_some_iff.1 h
     cases h
     obtain ⟨p1, p2, p3⟩ := hs _ _ _ h2
     obtain ⟨x3, rfl, _⟩ := tkS_some h3
     simp only [List.length_cons, W_cons] at *
     exact ⟨(suf_cons p1).trans (List.suffix_cons _ _), by omega, by omega⟩
    ·split at h
     ·obtain ⟨p1, p2, p3⟩ := pair_fit hs h
      simp only [List.length_cons, W_cons]
      exact ⟨p1.trans (List.suffix_cons _ _), by omega, by omega⟩
     ·split at h
      ·obtain ⟨p1, p2, p3⟩ := pair_fit hs h
       simp only [List.length_cons, W_cons]
       exact ⟨p1.trans (List.suffix_cons _ _), by omega, by omega⟩
      ·cases h
theorem muls_fit {sub : PE} (hs : Fit sub) : ∀ (k : Nat) (e : Ex) (ts : List Tk) (e' : Ex) (r : List Tk), mulsP sub k e ts = some (e', r) → r <:+ ts ∧ r.length ≤ ts.length ∧ e'.tot + W r ≤ e.tot + W ts
 | 0, e, ts, e', r, h => by cases h; exact ⟨List.suffix_refl _, Nat.le_refl _, Nat.le_refl _⟩
 | k + 1, e, ts, e', r, h => by
  simp only [mulsP] at h
  split at h
  ·cases h; exact ⟨List.suffix_refl _, Nat.le_refl _, Nat.le_refl _⟩
  ·rename_i r1 h1
   obtain ⟨⟨a, t2⟩, h2, h⟩ := Option.bind_eq_some_iff.1 h
   obtain ⟨x1, rfl, _⟩ := tkS_some h1
   obtain ⟨p1, p2, p3⟩ := atom_fit hs _ _ _ h2
   obtain ⟨q1, q2, q3⟩ := muls_fit hs k _ _ _ _ h
   try dsimp only at q1 q2 q3
   simp only [List.length_cons, W_cons, tot_two] at *
   exact ⟨q1.trans (p1.trans (List.suffix_cons _ _)), by omega, by omega⟩
theorem mul_fit {sub : PE} (hs : Fit sub) : Fit (mulP sub) := by
 intro ts e r h
 simp only [mulP] at h
 obtain ⟨⟨a, t2⟩, h2, h⟩ := Option.bind_eq_some_iff.1 h
 obtain ⟨p1, p2, p3⟩ := atom_fit hs _ _ _ h2
 obtain ⟨q1, q2, q3⟩ := muls_fit hs _ _ _ _ _ h
 try dsimp only at q1 q2 q3
 exact ⟨q1.trans p1, by omega, by omega⟩
theorem adds_fit {sub : PE} (hs : Fit sub) : ∀ (k : Nat) (e : Ex) (ts : List Tk) (e' : Ex) (r : List Tk), addsP sub k e ts = some (e', r) → r <:+ ts ∧ r.length ≤ ts.length ∧ e'.tot + W r ≤ e.tot + W ts
 | 0, e, ts, e', r, h => by cases h; exact ⟨List.suffix_refl _, Nat.le_refl _, Nat.le_refl _⟩
 | k + 1, e, ts, e', r, h => by
  simp only [addsP] at h
  have one : ∀ (op : Int) (r1 : List Tk) (x1 : Tk), ts = x1 :: r1 → ((mulP sub r1).bind fun (x, r2) => addsP sub k (two op e x) r2) = some (e', r) → r <:+ ts ∧ r.length ≤ ts.length ∧ e'.tot + W r ≤ e.tot + W ts := by
   rintro op r1 x1 rfl h
   obtain ⟨⟨a, t2⟩, h2, h⟩ := Option.bind_eq_some_iff.1 h
   obtain ⟨p1, p2, p3⟩ := mul_fit hs _ _ _ h2
   obtain ⟨q1, q2, q3⟩ := adds_fit hs k _ _ _ _ h
   try dsimp only at q1 q2 q3
   simp only [List.length_cons, W_cons, tot_two] at *
   exact ⟨q1.trans (p1.trans (List.suffix_cons _ _)), by omega, by omega⟩
  split at h
  ·rename_i r1 h1
   obtain ⟨x1, hx, _⟩ := tkS_some h1
   exact one 4 r1 x1 hx h
  ·split at h
   ·rename_i r1 h1
    obtain ⟨x1, hx, _⟩ := tkS_some h1
    exact one 5 r1 x1 hx h
   ·cases h; exact ⟨List.suffix_refl _, Nat.le_refl _, Nat.le_refl _⟩
theorem sum_fit : ∀ d, Fit (sumP d)
 | 0 => fun ts e r h => by cases h
 | d + 1 => fun ts e r h => by
  simp only [sumP] at h
  obtain ⟨⟨a, t2⟩, h2, h⟩ := Option.bind_eq_some_iff.1 h
  obtain ⟨p1, p2, p3⟩ := mul_fit (sum_fit d) _ _ _ h2
  obtain ⟨q1, q2, q3⟩ := adds_fit (sum_fit d) _ _ _ _ _ h
  try dsimp only at q1 q2 q3
  exact ⟨q1.trans p1, by omega, by omega⟩
theorem kept_len {s : ByteArray} (h : kept s = true) : 2 ≤ s.size ∧ s.size ≤ 6 := by
 unfold kept has at h
 rw [List.any_eq_true] at h
 obtain ⟨x, hx, he⟩ := h
 have : x = s := by simpa using he
 subst this
 simp [keptL] at hx
 rcases hx with rfl | rfl | rfl | rfl | rfl | rfl <;> exact ⟨by decide, by decide⟩
/-- The program's look at a sign is one of its kind. -/
theorem is_mark {t : Tk} (h : t.fine) (c : UInt8) : ((decide (t.k = 4) || decide (t.k = 3)) && decide (t.s = ch c)) = t.is 4 (ch c) := by
 unfold Tk.is
 by_cases h3 : t.k = 3
 ·have h1 := kept_len (h.word h3)
  have h2 : ¬ t.s = ch c := by
   intro e
   rw [e] at h1
   have : (ch c).size = 1 := rfl
   omega
  simp [h2]
 ·simp [h3]
theorem is_word {t : Tk} (h : t.fine) {s : ByteArray} (hs : 2 ≤ s.size) : ((decide (t.k = 4) || decide (t.k = 3)) && decide (t.s = s)) = t.is 3 s := by
 unfold Tk.is
 by_cases h4 : t.k = 4
 ·have h1 := h.mark h4
  have h2 : ¬ t.s = s := by
   intro e
   rw [e] at h1
   omega
  simp [h2]
 ·simp [h4]
theorem nameOk_len {s : ByteArray} (h : nameOk s = true) : s.size ≤ 6 := by
 unfold nameOk inR at h
 simp at h
 omega
theorem tokD_fine {L : List UInt8} {t : Tk} {r : List UInt8} (h : tokD L = some (t, r)) : t.fine := by
 cases L with
 | nil => cases h
 | cons c l =>
  simp only [tokD] at h
  split at h
  ·split at h
   ·rename_i hk
    cases h
    exact ⟨fun h => (by cases h), fun _ => hk, (kept_len hk).2, by simp, by simp⟩
   ·split at h
    ·rename_i hn
     cases h
     exact ⟨fun h => (by cases h), fun h => (by cases h), nameOk_len hn, by simp, by simp⟩
    ·cases h
  ·split at h
   ·split at h
    ·rename_i n hq
     split at h
     ·rename_i h9
      cases h
      have h0 : 0 ≤ n := by
       unfold numD at hq
       split at hq
       ·have := Option.some.inj hq; omega
       ·cases hq
      exact ⟨fun h => (by cases h), fun h => (by cases h), by show (0 : Nat) ≤ 6; omega, h0, h9⟩
     ·cases h
    ·cases h
   ·split at h
    ·cases h
     exact ⟨fun _ => rfl, fun h => (by cases h), by show (1 : Nat) ≤ 6; omega, by simp, by simp⟩
    ·cases h
theorem lexD_fine : ∀ (k n : Nat) (l : List UInt8) (ts : List Tk), lexD k n l = some ts → n ≤ 600 → (∀ t ∈ ts, t.fine) ∧ n + ts.length ≤ 600
 | k, n, [], ts, h, hn => by
  have : ts = [] := by cases k <;> (unfold lexD at h; exact (Option.some.inj h).symm)
  subst this
  exact ⟨fun t h => (by cases h), by simpa using hn⟩
 | 0, n, c :: l, ts, h, hn => by cases h
 | k + 1, n, c :: l, ts, h, hn => by
  simp only [lexD] at h
  split at h
  ·exact lexD_fine k n l ts h hn
  ·split at h
   ·cases h
   ·rename_i t r ht
    split at h
    ·cases h
    ·rename_i h6
     obtain ⟨ts', h1, rfl⟩ := Option.map_eq_some_iff.1 h
     obtain ⟨p1, p2⟩ := lexD_fine k (n + 1) r ts' h1 (by omega)
     refine ⟨fun x hx => ?_, by simp only [List.length_cons]; omega⟩
     rcases List.mem_cons.1 hx with rfl | hx
     ·exact tokD_fine ht
     ·exact p1 x hx
theorem lex_fine {s : ByteArray} {ts : List Tk} (h : lex s = some ts) : (∀ t ∈ ts, t.fine) ∧ ts.length ≤ 600 := by
 unfold lex at h
 split at h
 ·cases h
 ·have := lexD_fine _ _ _ _ h (by omega)
  exact ⟨this.1, by omega⟩
end Go.T
namespace Go.T
open Go
/-- A run from a place to another one: what it answers is what g says, or it is bad. -/
structure Run1 {α : Type} (g : List Tk → Option (α × List Tk)) (T : List Tk) (a : Nat) (bad : Bool) (x : α) (a' : Nat) (bad' : Bool) : Prop where
 good : ∀ x0 r, bad = false → g (T.drop a) = some (x0, r) → x = x0 ∧ bad' = false ∧ T.drop a' = r
 ill : bad = true ∨ g (T.drop a) = none → bad' = true
theorem Run1.bind {α β : Type} {g : List Tk → Option (α × List Tk)} {h : α → List Tk → Option (β × List Tk)} {T : List Tk} {a a1 a2 : Nat} {b b1 b2 : Bool} {x : α} {y : β} (h1 : Run1 g T a b x a1 b1) (h2 : Run1 (h x) T a1 b1 y a2 b2) :
  Run1 (fun ts => (g ts).bind fun p => h p.1 p.2) T a b y a2 b2 := by
 refine ⟨fun y0 r hb he => ?_, fun hi => ?_⟩
 ·obtain ⟨⟨x0, r0⟩, e1, e2⟩ := Option.bind_eq_some_iff.1 he
  obtain ⟨rfl, hb1, hd⟩ := h1.good x0 r0 hb e1
  exact h2.good y0 r hb1 (by rw [hd]; exact e2)
 ·refine h2.ill ?_
  by_cases hb : b = true
  ·exact .inl (h1.ill (.inl hb))
  ·have hb : b = false := by simpa using hb
   have hn := hi.resolve_left (by simp [hb])
   cases hg : g (T.drop a) with
   | none => exact .inl (h1.ill (.inr hg))
   | some p =>
    obtain ⟨x0, r0⟩ := p
    obtain ⟨rfl, hb1, hd⟩ := h1.good x0 r0 hb hg
    right
    rw [hd]
    simpa [hg] using hn
theorem Run1.pure {α : Type} (x : α) (T : List Tk) (a : Nat) (b : Bool) : Run1 (fun ts => some (x, ts)) T a b x a b :=
 ⟨fun x0 r hb he => by cases he; exact ⟨rfl, hb, rfl⟩, fun h => h.resolve_right (by simp)⟩
theorem Run1.eq {α : Type} {g g' : List Tk → Option (α × List Tk)} {T : List Tk} {a a' : Nat} {b b' : Bool} {x : α} (h : Run1 g T a b x a' b') (e : ∀ ts, g' ts = g ts) : Run1 g' T a b x a' b' := by
 have : g' = g := funext e
 rw [this]; exact h
theorem Run1.bad {α : Type} (g : List Tk → Option (α × List Tk)) (T : List Tk) (a a' : Nat) (x : α) : Run1 g T a true x a' true := ⟨fun _ _ h => (by cases h), fun _ => rfl⟩
/-- A mark that must be there. -/
def tkR (s : ByteArray) : List Tk → Option (Unit × List Tk) := fun ts => (tkS 4 s ts).map fun r => ((), r)
theorem pair_run {sub : PE} {T : List Tk} {a a1 a2 a3 a4 a5 : Nat} {b b1 b2 b3 b4 b5 : Bool} {x y : Ex} (k : Int) (h1 : Run1 (tkR (ch 40)) T a b () a1 b1) (h2 : Run1 sub T a1 b1 x a2 b2) (h3 : Run1 (tkR (ch 44)) T a2 b2 () a3 b3) (h4 : Run1 sub T a3 b3 y a4 b4) (h5 : Run1 (tkR (ch 41)) T a4 b4 () a5 b5) :
  Run1 (pairP sub k) T a b (two k x y) a5 b5 := by
 have p5 := h5.bind (h := fun _ ts => some (two k x y, ts)) (Run1.pure _ T a5 b5)
 have p4 := h4.bind (h := fun y ts => (tkR (ch 41) ts).bind fun p => some (two k x y, p.2)) p5
 have p3 := h3.bind (h := fun _ ts => (sub ts).bind fun q => (tkR (ch 41) q.2).bind fun p => some (two k x q.1, p.2)) p4
 have p2 := h2.bind (h := fun x ts => (tkR (ch 44) ts).bind fun o => (sub o.2).bind fun q => (tkR (ch 41) q.2).bind fun p => some (two k x q.1, p.2)) p3
 have p1 := h1.bind (h := fun _ ts => (sub ts).bind fun n => (tkR (ch 44) n.2).bind fun o => (sub o.2).bind fun q => (tkR (ch 41) q.2).bind fun p => some (two k n.1 q.1, p.2)) p2
 exact p1.eq fun ts => by simp only [pairP, tkR, Option.bind_map, Function.comp_def]
/-- What stands in brackets. -/
def paren (sub : PE) : PE := fun ts => (sub ts).bind fun p => (tkS 4 (ch 41) p.2).bind fun r => some (p.1, r)
theorem paren_run {sub : PE} {T : List Tk} {a a1 a2 : Nat} {b b1 b2 : Bool} {x : Ex} (h1 : Run1 sub T a b x a1 b1) (h2 : Run1 (tkR (ch 41)) T a1 b1 () a2 b2) : Run1 (paren sub) T a b x a2 b2 := by
 have p2 := h2.bind (h := fun _ ts => some (x, ts)) (Run1.pure _ T a2 b2)
 have p1 := h1.bind (h := fun x ts => (tkR (ch 41) ts).bind fun p => some (x, p.2)) p2
 exact p1.eq fun ts => by simp only [paren, tkR, Option.bind_map, Function.comp_def]
/-- A place of an array. -/
def plc (sub : PE) (s : ByteArray) : PE := fun ts => (sub ts).bind fun p => (tkS 4 (ch 93) p.2).bind fun r => some (.mk 3 0 s [p.1], r)
theorem plc_run {sub : PE} {T : List Tk} {a a1 a2 : Nat} {b b1 b2 : Bool} {x : Ex} (s : ByteArray) (h1 : Run1 sub T a b x a1 b1) (h2 : Run1 (tkR (ch 93)) T a1 b1 () a2 b2) : Run1 (plc sub s) T a b (.mk 3 0 s [x]) a2 b2 := by
 have p2 := h2.bind (h := fun _ ts => some (Ex.mk 3 0 s [x], ts)) (Run1.pure _ T a2 b2)
 have p1 := h1.bind (h := fun x ts => (tkR (ch 93) ts).bind fun p => some (Ex.mk 3 0 s [x], p.2)) p2
 exact p1.eq fun ts => by simp only [plc, tkR, Option.bind_map, Function.comp_def]
/-- A run from behind the next token, as one from it. -/
theorem Run1.cons {α : Type} {g g' : List Tk → Option (α × List Tk)} {T : List Tk} {a a' : Nat} {b' : Bool} {x : α} (hlt : a < T.length) (h : Run1 g T (a + 1) false x a' b') (e : ∀ l, g' (T[a] :: l) = g l) : Run1 g' T a false x a' b' := by
 have hd : T.drop a = T[a] :: T.drop (a + 1) := List.drop_eq_getElem_cons hlt
 refine ⟨fun x0 r hb he => h.good x0 r rfl ?_, fun hi => h.ill (hi.imp_right fun hn => ?_)⟩
 ·rw [hd, e] at he; exact he
 ·rw [hd, e] at hn; exact hn
theorem tkR_run {T : List Tk} (hT : ∀ t ∈ T, t.fine) {a : Nat} (ha : a ≤ T.length) {bad : Bool} (c : UInt8) (t : Tk) (ht : t = if bad = true then ⟨0, ⟨#[]⟩, 0⟩ else (T[a]?).getD ⟨0, ⟨#[]⟩, 0⟩) :
  Run1 (tkR (ch c)) T a bad () (if ((decide (t.k = 4) || decide (t.k = 3)) && decide (t.s = ch c)) = true then a + 1 else a) (!((decide (t.k = 4) || decide (t.k = 3)) && decide (t.s = ch c))) := by
 cases bad with
 | true =>
  subst ht
  simp
  exact Run1.bad _ _ _ _ _
 | false =>
  by_cases hlt : a < T.length
  ·have ht2 : t = T[a] := by rw [ht, List.getElem?_eq_getElem hlt]; rfl
   subst ht2
   rw [is_mark (hT _ (List.getElem_mem hlt))]
   have hd : T.drop a = T[a] :: T.drop (a + 1) := List.drop_eq_getElem_cons hlt
   cases hi : T[a].is 4 (ch c) with
   | true =>
    refine ⟨fun x0 r _ he => ?_, fun h => ?_⟩
    ·rw [hd] at he
     simp only [tkR, tkS, hi, if_true, Option.map_some, Option.some.injEq, Prod.mk.injEq] at he
     exact ⟨rfl, rfl, he.2⟩
    ·have h := h.resolve_left (by simp)
     rw [hd] at h
     simp [tkR, tkS, hi] at h
   | false =>
    refine ⟨fun x0 r _ he => ?_, fun _ => rfl⟩
    rw [hd] at he
    simp [tkR, tkS, hi] at he
  ·have ht2 : t = ⟨0, ⟨#[]⟩, 0⟩ := by rw [ht, List.getElem?_eq_none (by omega)]; rfl
   subst ht2
   have hd : T.drop a = [] := List.drop_eq_nil_of_le (by omega)
   refine ⟨fun x0 r _ he => ?_, fun _ => by simp⟩
   rw [hd] at he
   simp [tkR, tkS] at he
/-- Nothing that a sum may begin with is next. -/
theorem atom_none {sub : PE} {T : List Tk} {a : Nat} {t : Tk} (hlt : a < T.length) (ht : t = T[a]) (h2 : t.k ≠ 2) (h1 : t.k ≠ 1) (h4 : t.is 4 (ch 40) = false) (h5 : t.is 3 minB = false) (h6 : t.is 3 maxB = false) : atomP sub (T.drop a) = none := by
 rw [List.drop_eq_getElem_cons hlt, ← ht]
 simp only [atomP, if_neg h2, if_neg h1, h4, h5, h6, Bool.false_eq_true, if_false]
def mulsL (sub : PE) (e : Ex) : PE := fun ts => mulsP sub ts.length e ts
def addsL (sub : PE) (e : Ex) : PE := fun ts => addsP sub ts.length e ts
theorem muls_fuel {sub : PE} (hs : Fit sub) : ∀ (k j : Nat) (e : Ex) (ts : List Tk), ts.length ≤ k → ts.length ≤ j → mulsP sub k e ts = mulsP sub j e ts
 | k, j, e, [], _, _ => by cases k <;> cases j <;> rfl
 | 0, j, e, t :: l, h, _ => by simp at h
 | k + 1, 0, e, t :: l, _, h => by simp at h
 | k + 1, j + 1, e, t :: l, h1, h2 => by
  simp only [mulsP]
  cases hq : tkS 4 (ch 42) (t :: l) with
  | none => rfl
  | some r =>
   obtain ⟨t', hx, _⟩ := tkS_some hq
   cases hx
   simp only
   cases ha : atomP sub l with
   | none => rfl
   | some p =>
    obtain ⟨x, r1⟩ := p
    have hf := (atom_fit hs _ _ _ ha).2.1
    simp only [Option.bind_some]
    simp only [List.length_cons] at h1 h2
    exact muls_fuel hs k j _ r1 (by omega) (by omega)
theorem adds_fuel {sub : PE} (hs : Fit sub) : ∀ (k j : Nat) (e : Ex) (ts : List Tk), ts.length ≤ k → ts.length ≤ j → addsP sub k e ts = addsP sub j e ts
 | k, j, e, [], _, _ => by cases k <;> cases j <;> rfl
 | 0, j, e, t :: l, h, _ => by simp at h
 | k + 1, 0, e, t :: l, _, h => by simp at h
 | k + 1, j + 1, e, t :: l, h1, h2 => by
  have one : ∀ op : Int, ((mulP sub l).bind fun (x, r1) => addsP sub k (two op e x) r1) = (mulP sub l).bind fun (x, r1) => addsP sub j (two op e x) r1 := by
   intro op
   cases ha : mulP sub l with
   | none => rfl
   | some p =>
    obtain ⟨x, r1⟩ := p
    have hf := (mul_fit hs _ _ _ ha).2.1
    simp only [Option.bind_some]
    simp only [List.length_cons] at h1 h2
    exact adds_fuel hs k j _ r1 (by omega) (by omega)
  simp only [addsP]
  cases hq : tkS 4 (ch 43) (t :: l) with
  | some r =>
   obtain ⟨t', hx, _⟩ := tkS_some hq
   cases hx
   exact one 4
  | none =>
   simp only
   cases hq2 : tkS 4 (ch 45) (t :: l) with
   | none => rfl
   | some r =>
    obtain ⟨t', hx, _⟩ := tkS_some hq2
    cases hx
    exact one 5
theorem muls_cons {sub : PE} (hs : Fit sub) (e : Ex) (t : Tk) (l : List Tk) : mulsL sub e (t :: l) = if t.is 4 (ch 42) = true then (atomP sub l).bind fun p => mulsL sub (two 6 e p.1) p.2 else some (e, t :: l) := by
 unfold mulsL
 rw [List.length_cons]
 simp only [mulsP, tkS]
 by_cases h2 : t.is 4 (ch 42) = true
 ·simp only [if_pos h2]
  cases ha : atomP sub l with
  | none => rfl
  | some p =>
   obtain ⟨x, r1⟩ := p
   have hf := (atom_fit hs _ _ _ ha).2.1
   simp only [Option.bind_some]
   exact muls_fuel hs _ _ _ _ (by omega) (Nat.le_refl _)
 ·simp only [if_neg h2]
theorem adds_cons {sub : PE} (hs : Fit sub) (e : Ex) (t : Tk) (l : List Tk) : addsL sub e (t :: l) = if t.is 4 (ch 43) = true then (mulP sub l).bind fun p => addsL sub (two 4 e p.1) p.2 else if t.is 4 (ch 45) = true then (mulP sub l).bind fun p => addsL sub (two 5 e p.1) p.2 else some (e, t :: l) := by
 have one : ∀ op : Int, ((mulP sub l).bind fun (x, r1) => addsP sub l.length (two op e x) r1) = (mulP sub l).bind fun p => addsP sub p.2.length (two op e p.1) p.2 := by
  intro op
  cases ha : mulP sub l with
  | none => rfl
  | some p =>
   obtain ⟨x, r1⟩ := p
   have hf := (mul_fit hs _ _ _ ha).2.1
   simp only [Option.bind_some]
   exact adds_fuel hs _ _ _ _ (by omega) (Nat.le_refl _)
 unfold addsL
 rw [List.length_cons]
 simp only [addsP, tkS]
 by_cases h1 : t.is 4 (ch 43) = true
 ·simp only [if_pos h1]; exact one 4
 ·simp only [if_neg h1]
  by_cases h2 : t.is 4 (ch 45) = true
  ·simp only [if_pos h2]; exact one 5
  ·simp only [if_neg h2]
theorem muls_nil (sub : PE) (e : Ex) : mulsL sub e [] = some (e, []) := rfl
theorem adds_nil (sub : PE) (e : Ex) : addsL sub e [] = some (e, []) := rfl
/-- The next token is not a mark. -/
def notM (T : List Tk) (a : Nat) (c : UInt8) : Prop := ∀ h : a < T.length, T[a].is 4 (ch c) = false
theorem muls_exit {sub : PE} (hs : Fit sub) (e : Ex) {T : List Tk} {a : Nat} {b : Bool} (h : b = true ∨ notM T a 42) : Run1 (mulsL sub e) T a b e a b := by
 refine ⟨fun x0 r hb he => ?_, fun hi => ?_⟩
 ·have hn := h.resolve_left (by simp [hb])
  by_cases hlt : a < T.length
  ·rw [List.drop_eq_getElem_cons hlt, muls_cons hs, if_neg (by rw [hn hlt]; simp), ← List.drop_eq_getElem_cons hlt] at he
   cases he
   exact ⟨rfl, hb, rfl⟩
  ·have hd : T.drop a = [] := List.drop_eq_nil_of_le (by omega)
   rw [hd, muls_nil] at he
   cases he
   exact ⟨rfl, hb, hd⟩
 ·rcases h with h | hn
  ·exact h
  ·refine hi.resolve_right ?_
   by_cases hlt : a < T.length
   ·rw [List.drop_eq_getElem_cons hlt, muls_cons hs, if_neg (by rw [hn hlt]; simp)]; simp
   ·rw [List.drop_eq_nil_of_le (by omega), muls_nil]; simp
theorem adds_exit {sub : PE} (hs : Fit sub) (e : Ex) {T : List Tk} {a : Nat} {b : Bool} (h : b = true ∨ (notM T a 43 ∧ notM T a 45)) : Run1 (addsL sub e) T a b e a b := by
 refine ⟨fun x0 r hb he => ?_, fun hi => ?_⟩
 ·have hn := h.resolve_left (by simp [hb])
  by_cases hlt : a < T.length
  ·rw [List.drop_eq_getElem_cons hlt, adds_cons hs, if_neg (by rw [hn.1 hlt]; simp), if_neg (by rw [hn.2 hlt]; simp), ← List.drop_eq_getElem_cons hlt] at he
   cases he
   exact ⟨rfl, hb, rfl⟩
  ·have hd : T.drop a = [] := List.drop_eq_nil_of_le (by omega)
   rw [hd, adds_nil] at he
   cases he
   exact ⟨rfl, hb, hd⟩
 ·rcases h with h | hn
  ·exact h
  ·refine hi.resolve_right ?_
   by_cases hlt : a < T.length
   ·rw [List.drop_eq_getElem_cons hlt, adds_cons hs, if_neg (by rw [hn.1 hlt]; simp), if_neg (by rw [hn.2 hlt]; simp)]; simp
   ·rw [List.drop_eq_nil_of_le (by omega), adds_nil]; simp
theorem muls_step {sub : PE} (hs : Fit sub) {e x y : Ex} {T : List Tk} {a a1 a2 : Nat} {b1 b2 : Bool} (hlt : a < T.length) (hm : T[a].is 4 (ch 42) = true) (h1 : Run1 (atomP sub) T (a + 1) false x a1 b1) (h2 : Run1 (mulsL sub (two 6 e x)) T a1 b1 y a2 b2) : Run1 (mulsL sub e) T a false y a2 b2 := by
 have h3 := h1.bind (h := fun x => mulsL sub (two 6 e x)) h2
 have hd : T.drop a = T[a] :: T.drop (a + 1) := List.drop_eq_getElem_cons hlt
 have e1 : mulsL sub e (T.drop a) = (atomP sub (T.drop (a + 1))).bind fun p => mulsL sub (two 6 e p.1) p.2 := by rw [hd, muls_cons hs, if_pos hm]
 exact ⟨fun x0 r hb he => h3.good x0 r rfl (by rw [← e1]; exact he), fun hi => h3.ill (hi.imp_right fun hn => by rw [← e1]; exact hn)⟩
theorem adds_step {sub : PE} (hs : Fit sub) {e x y : Ex} {T : List Tk} {a a1 a2 : Nat} {b1 b2 : Bool} (hlt : a < T.length) {op : Int} (hm : (T[a].is 4 (ch 43) = true ∧ op = 4) ∨ (T[a].is 4 (ch 43) = false ∧ T[a].is 4 (ch 45) = true ∧ op = 5)) (h1 : Run1 (mulP sub) T (a + 1) false x a1 b1) (h2 : Run1 (addsL sub (two op e x)) T a1 b1 y a2 b2) : Run1 (addsL sub e) T a false y a2 b2 := by
 have h3 := h1.bind (h := fun x => addsL sub (two op e x)) h2
 have hd : T.drop a = T[a] :: T.drop (a + 1) := List.drop_eq_getElem_cons hlt
 have e1 : addsL sub e (T.drop a) = (mulP sub (T.drop (a + 1))).bind fun p => addsL sub (two op e p.1) p.2 := by
  rw [hd, adds_cons hs]
  rcases hm with ⟨hm, rfl⟩ | ⟨hm, hm2, rfl⟩
  ·rw [if_pos hm]
  ·rw [if_neg (by simp [hm]), if_pos hm2]
 exact ⟨fun x0 r hb he => h3.good x0 r rfl (by rw [← e1]; exact he), fun hi => h3.ill (hi.imp_right fun hn => by rw [← e1]; exact hn)⟩
theorem mul_run {sub : PE} {x y : Ex} {T : List Tk} {a a1 a2 : Nat} {b b1 b2 : Bool} (h1 : Run1 (atomP sub) T a b x a1 b1) (h2 : Run1 (mulsL sub x) T a1 b1 y a2 b2) : Run1 (mulP sub) T a b y a2 b2 :=
 (h1.bind (h := fun x => mulsL sub x) h2).eq fun ts => rfl
theorem sum_run {d : Nat} {x y : Ex} {T : List Tk} {a a1 a2 : Nat} {b b1 b2 : Bool} (h1 : Run1 (mulP (sumP d)) T a b x a1 b1) (h2 : Run1 (addsL (sumP d) x) T a1 b1 y a2 b2) : Run1 (sumP (d + 1)) T a b y a2 b2 :=
 (h1.bind (h := fun x => addsL (sumP d) x) h2).eq fun ts => rfl
theorem Run1.lt {g : PE} (hf : Fit g) {T : List Tk} {a a' : Nat} {b : Bool} {x : Ex} (h : Run1 g T a b x a' false) (ha : a' ≤ T.length) : T.length - a' < T.length - a := by
 have hb : b = false := by
  cases b with
  | false => rfl
  | true => have := h.ill (.inl rfl); cases this
 cases hg : g (T.drop a) with
 | none => have := h.ill (.inr hg); cases this
 | some p =>
  obtain ⟨x0, r⟩ := p
  obtain ⟨_, _, hd⟩ := h.good x0 r hb hg
  have h1 := (hf _ _ _ hg).2.1
  have h2 := congrArg List.length hd
  simp at h1 h2
  omega
end Go.T
namespace Go.T
open Go
def forB : ByteArray := ⟨#[102, 111, 114]⟩
def printB : ByteArray := ⟨#[112, 114, 105, 110, 116]⟩
def toB : ByteArray := ⟨#[116, 111]⟩
def arrayB : ByteArray := ⟨#[97, 114, 114, 97, 121]⟩
def zE : Ex := .mk 0 0 ⟨#[]⟩ []
abbrev PA (α : Type) := List Tk → Option (α × List Tk)
def pureP {α : Type} (x : α) : PA α := fun ts => some (x, ts)
def bindP {α β : Type} (g : PA α) (h : α → PA β) : PA β := fun ts => (g ts).bind fun p => h p.1 p.2
theorem bindP_some {α β : Type} {g : PA α} {h : α → PA β} {ts r : List Tk} {y : β} : bindP g h ts = some (y, r) ↔ ∃ x r1, g ts = some (x, r1) ∧ h x r1 = some (y, r) := by
 unfold bindP
 rw [Option.bind_eq_some_iff]
 constructor
 ·rintro ⟨⟨x, r1⟩, h1, h2⟩; exact ⟨x, r1, h1, h2⟩
 ·rintro ⟨x, r1, h1, h2⟩; exact ⟨(x, r1), h1, h2⟩
def kpR (s : ByteArray) : PA Unit := fun ts => (tkS 3 s ts).map fun r => ((), r)
def nmP : PA ByteArray
 | [] => none
 | t :: r => if t.k = 1 then some (t.s, r) else none
def numP : PA Int
 | [] => none
 | t :: r => if t.k = 2 then some (t.n, r) else none
def exP : PE := sumP 30
def smSet (s : ByteArray) (e : Ex) : Sm := .mk 1 s zE e zE zE []
def smPut (s : ByteArray) (a e : Ex) : Sm := .mk 2 s a e zE zE []
def smFor (s : ByteArray) (lo hi : Ex) (b : List Sm) : Sm := .mk 3 s zE zE lo hi b
def smPrint (e : Ex) : Sm := .mk 4 ⟨#[]⟩ zE e zE zE []
/-- An expression, and a mark behind it. -/
def exEnd (c : UInt8) : PE := bindP exP fun e => bindP (tkR (ch c)) fun _ => pureP e
def setP (s : ByteArray) : PA Sm := bindP (tkR (ch 61)) fun _ => bindP (exEnd 59) fun e => pureP (smSet s e)
def putP (s : ByteArray) : PA Sm := bindP (exEnd 93) fun a => bindP (tkR (ch 61)) fun _ => bindP (exEnd 59) fun e => pureP (smPut s a e)
def asgP (s : ByteArray) : PA Sm := fun ts => match tkS 4 (ch 91) ts with
 | some r => putP s r
 | none => setP s ts
def prnP : PA Sm := bindP (exEnd 59) fun e => pureP (smPrint e)
def plainP : PA Sm := fun ts => match tkS 3 printB ts with
 | some r => prnP r
 | none => bindP nmP asgP ts
/-- Statements up to a bracket, behind some. -/
def bodyP (sub : PA Sm) : Nat → List Sm → PA (List Sm)
 | 0, _, _ => none
 | k + 1, l, ts => match tkS 4 (ch 125) ts with
  | some r => some (l, r)
  | none => (sub ts).bind fun p => bodyP sub k (l ++ [p.1]) p.2
def bodyL (sub : PA Sm) (l : List Sm) : PA (List Sm) := fun ts => bodyP sub (ts.length + 1) l ts
def loopP (sub : PA Sm) : PA Sm := bindP nmP fun s => bindP (tkR (ch 61)) fun _ => bindP exP fun lo => bindP (kpR toB) fun _ => bindP exP fun hi => bindP (tkR (ch 123)) fun _ => bindP (bodyL sub []) fun b => pureP (smFor s lo hi b)
/-- A statement, in which loops may be so deep. -/
def stmtP : Nat → PA Sm
 | 0 => fun ts => match tkS 3 forB ts with
  | some _ => none
  | none => plainP ts
 | d + 1 => fun ts => match tkS 3 forB ts with
  | some r => loopP (stmtP d) r
  | none => plainP ts
/-- The like, as the reference reads it: at the end there is nothing. -/
def stmtQ : Nat → PA Sm
 | 0 => fun _ => none
 | d + 1 => fun ts => match tkS 3 forB ts with
  | some r => loopP (stmtQ d) r
  | none => plainP ts
/-- Statements up to the end, behind some. -/
def restP (sub : PA Sm) : Nat → List Sm → List Tk → Option (List Sm × List Tk)
 | _, l, [] => some (l, [])
 | 0, _, _ :: _ => none
 | k + 1, l, t :: ts => (sub (t :: ts)).bind fun p => restP sub k (l ++ [p.1]) p.2
def restL (sub : PA Sm) (l : List Sm) : PA (List Sm) := fun ts => restP sub ts.length l ts
def arrP : PA Ar := bindP nmP fun s => bindP numP fun n => bindP (tkR (ch 59)) fun _ => pureP ⟨s, n⟩
def arrsP : Nat → List Ar → PA (List Ar)
 | 0, l, ts => some (l, ts)
 | k + 1, l, ts => match tkS 3 arrayB ts with
  | none => some (l, ts)
  | some r => (arrP r).bind fun p => arrsP k (l ++ [p.1]) p.2
def arrsL (l : List Ar) : PA (List Ar) := fun ts => arrsP ts.length l ts
/-- Where an array belongs among arrays in order. -/
def insR (l : List Ar) (a : Ar) : List Ar := (l.reverse.dropWhile fun x => blt a.s x.s).reverse ++ a :: (l.reverse.takeWhile fun x => blt a.s x.s).reverse
def sortA (l : List Ar) : List Ar := l.foldl insR []
/-- A program of a text, its statements being read so. -/
def parseW (sub : PA Sm) (s : ByteArray) : Option Pg := match lex s with
 | none => none
 | some ts => match bindP (arrsL []) (fun as => bindP (restL sub []) fun b => pureP (Pg.mk (sortA as) b)) ts with
  | some (p, _) => if p.ok = true then some p else none
  | none => none
def parse (s : ByteArray) : Option Pg := parseW (stmtP 3) s
-- the two ways to read
theorem body_mono {f g : PA Sm} : ∀ (k : Nat) (l : List Sm) (ts : List Tk) (b : List Sm) (r : List Tk), bodyP f k l ts = some (b, r) → ∃ b', b = l ++ b' ∧ ((∀ x ∈ b', ∀ t q, f t = some (x, q) → g t = some (x, q)) → bodyP g k l ts = some (b, r))
 | 0, l, ts, b, r, h => by cases h
 | k + 1, l, ts, b, r, h => by
  simp only [bodyP] at h ⊢
  cases hq : tkS 4 (ch 125) ts with
  | some r1 =>
   rw [hq] at h
   cases h
   exact ⟨[], by simp, fun _ => rfl⟩
  | none =>
   rw [hq] at h
   simp only at h ⊢
   obtain ⟨⟨x, r1⟩, h1, h2⟩ := Option.bind_eq_some_iff.1 h
   obtain ⟨b', rfl, k2⟩ := body_mono k _ _ _ _ h2
   refine ⟨x :: b', by simp, fun hm => ?_⟩
   rw [hm x (by simp) _ _ h1]
   exact k2 fun y hy => hm y (by simp [hy])
theorem loop_mono {f g : PA Sm} {ts r : List Tk} {x : Sm} (h : loopP f ts = some (x, r)) : ∃ s lo hi b, x = smFor s lo hi b ∧ ((∀ x ∈ b, ∀ t q, f t = some (x, q) → g t = some (x, q)) → loopP g ts = some (x, r)) := by
 unfold loopP at h ⊢
 obtain ⟨s, r1, h1, h⟩ := bindP_some.1 h
 obtain ⟨u, r2, h2, h⟩ := bindP_some.1 h
 obtain ⟨lo, r3, h3, h⟩ := bindP_some.1 h
 obtain ⟨u', r4, h4, h⟩ := bindP_some.1 h
 obtain ⟨hi, r5, h5, h⟩ := bindP_some.1 h
 obtain ⟨u'', r6, h6, h⟩ := bindP_some.1 h
 obtain ⟨b, r7, h7, h⟩ := bindP_some.1 h
 obtain ⟨b', e, hb⟩ := body_mono (g := g) _ _ _ _ _ h7
 simp only [List.nil_append] at e
 subst e
 have hx : x = smFor s lo hi b := by cases h; rfl
 exact ⟨s, lo, hi, b, hx, fun hm => bindP_some.2 ⟨s, r1, h1, bindP_some.2 ⟨u, r2, h2, bindP_some.2 ⟨lo, r3, h3, bindP_some.2 ⟨u', r4, h4, bindP_some.2 ⟨hi, r5, h5, bindP_some.2 ⟨u'', r6, h6, bindP_some.2 ⟨b, r7, hb hm, h⟩⟩⟩⟩⟩⟩⟩⟩
theorem stmt_up : ∀ (d q : Nat) (ts : List Tk) (x : Sm) (r : List Tk), d < q → stmtP d ts = some (x, r) → stmtQ q ts = some (x, r)
 | d, 0, ts, x, r, hq, _ => by omega
 | 0, q + 1, ts, x, r, _, h => by
  simp only [stmtP, stmtQ] at h ⊢
  cases hf : tkS 3 forB ts with
  | some r1 => rw [hf] at h; cases h
  | none => rw [hf] at h; exact h
 | d + 1, q + 1, ts, x, r, hq, h => by
  simp only [stmtP, stmtQ] at h ⊢
  cases hf : tkS 3 forB ts with
  | some r1 =>
   rw [hf] at h
   obtain ⟨s, lo, hi, b, rfl, hm⟩ := loop_mono (g := stmtQ q) h
   exact hm fun y _ t p hy => stmt_up d q t y p (by omega) hy
  | none => rw [hf] at h; exact h
theorem rights_mem : ∀ {l : List Sm} {d : Nat}, Sm.rights l d = true → ∀ x ∈ l, x.right d = true
 | [], _, _, x, hx => by cases hx
 | y :: l, d, h, x, hx => by
  rw [Sm.rights, Bool.and_eq_true] at h
  rcases List.mem_cons.1 hx with rfl | hx
  ·exact h.1
  ·exact rights_mem h.2 x hx
theorem right_for {s : ByteArray} {lo hi : Ex} {b : List Sm} {d : Nat} (h : (smFor s lo hi b).right d = true) : d < 3 ∧ Sm.rights b (d + 1) = true := by
 unfold smFor at h
 rw [Sm.right] at h
 simp [stHere] at h
 exact ⟨h.1.1.2, h.2⟩
theorem stmt_down : ∀ (q d : Nat) (ts : List Tk) (x : Sm) (r : List Tk), d ≤ 3 → stmtQ q ts = some (x, r) → x.right (3 - d) = true → stmtP d ts = some (x, r)
 | 0, d, ts, x, r, _, h, _ => by cases h
 | q + 1, d, ts, x, r, hd, h, hx => by
  simp only [stmtQ] at h
  cases hf : tkS 3 forB ts with
  | some r1 =>
   rw [hf] at h
   cases d with
   | zero =>
    obtain ⟨s, lo, hi, b, rfl, hm⟩ := loop_mono (g := stmtQ q) h
    have := (right_for hx).1
    omega
   | succ d =>
    obtain ⟨s, lo, hi, b, rfl, hm⟩ := loop_mono (g := stmtP d) h
    simp only [stmtP, hf]
    refine hm fun y hy t p hyt => stmt_down q d t y p (by omega) hyt ?_
    have := rights_mem (right_for hx).2 y hy
    rwa [show 3 - (d + 1) + 1 = 3 - d by omega] at this
  | none =>
   rw [hf] at h
   cases d with
   | zero => simp only [stmtP, hf]; exact h
   | succ d => simp only [stmtP, hf]; exact h
theorem rest_mono {f g : PA Sm} : ∀ (k : Nat) (l : List Sm) (ts : List Tk) (b : List Sm) (r : List Tk), restP f k l ts = some (b, r) → ∃ b', b = l ++ b' ∧ ((∀ x ∈ b', ∀ t q, f t = some (x, q) → g t = some (x, q)) → restP g k l ts = some (b, r))
 | k, l, [], b, r, h => by
  have e : restP f k l [] = some (l, []) := by cases k <;> rfl
  rw [e] at h
  cases h
  exact ⟨[], by simp, fun _ => by cases k <;> rfl⟩
 | 0, l, t :: ts, b, r, h => by cases h
 | k + 1, l, t :: ts, b, r, h => by
  simp only [restP] at h ⊢
  obtain ⟨⟨x, r1⟩, h1, h2⟩ := Option.bind_eq_some_iff.1 h
  obtain ⟨b', rfl, k2⟩ := rest_mono k _ _ _ _ h2
  refine ⟨x :: b', by simp, fun hm => ?_⟩
  rw [hm x (by simp) _ _ h1]
  exact k2 fun y hy => hm y (by simp [hy])
theorem Pg.ok_body {p : Pg} (h : p.ok = true) : ∀ x ∈ p.body, x.right 0 = true := by
 intro x hx
 unfold Pg.ok Pg.head at h
 simp only [Bool.and_eq_true] at h
 have := List.all_eq_true.1 h.1.2.2.2.2 x hx
 unfold Sm.ok at this
 rw [Bool.and_eq_true] at this
 exact this.1
/-- The reference's way to read comes to the same program. -/
theorem parse_Q (s : ByteArray) : parseW (stmtQ 5) s = parse s := by
 unfold parse parseW
 cases lex s with
 | none => rfl
 | some ts =>
  simp only
  cases hp : bindP (arrsL []) (fun as => bindP (restL (stmtP 3) []) fun b => pureP (Pg.mk (sortA as) b)) ts with
  | some o =>
   obtain ⟨p, r⟩ := o
   obtain ⟨as, r1, h1, h⟩ := bindP_some.1 hp
   obtain ⟨b, r2, h2, h⟩ := bindP_some.1 h
   obtain ⟨b', e, hb⟩ := rest_mono (g := stmtQ 5) _ _ _ _ _ h2
   have hb2 : restL (stmtQ 5) [] r1 = some (b, r2) := hb fun x _ t q hx => stmt_up 3 5 t x q (by omega) hx
   rw [bindP_some.2 ⟨as, r1, h1, bindP_some.2 ⟨b, r2, hb2, h⟩⟩]
  | none =>
   simp only
   cases hq : bindP (arrsL []) (fun as => bindP (restL (stmtQ 5) []) fun b => pureP (Pg.mk (sortA as) b)) ts with
   | none => rfl
   | some o =>
    obtain ⟨p, r⟩ := o
    simp only
    split
    ·rename_i hok
     obtain ⟨as, r1, h1, h⟩ := bindP_some.1 hq
     obtain ⟨b, r2, h2, h⟩ := bindP_some.1 h
     obtain ⟨b', e, hb⟩ := rest_mono (g := stmtP 3) _ _ _ _ _ h2
     simp only [List.nil_append] at e
     subst e
     have hp2 : p = Pg.mk (sortA as) b := by cases h; rfl
     have hb2 : restL (stmtP 3) [] r1 = some (b, r2) := hb fun x hx t q hxt => stmt_down 5 3 t x q (by omega) hxt (Pg.ok_body hok x (by rw [hp2]; exact hx))
     have : bindP (arrsL []) (fun as => bindP (restL (stmtP 3) []) fun b => pureP (Pg.mk (sortA as) b)) ts = some (p, r) := bindP_some.2 ⟨as, r1, h1, bindP_some.2 ⟨b, r2, hb2, h⟩⟩
     rw [hp] at this
     cases this
    ·rfl
end Go.T
namespace Go.T
open Go
theorem takeW_app {α : Type} (p : α → Bool) : ∀ (l r : List α), (∀ x ∈ l, p x = true) → (∀ x r', r = x :: r' → p x = false) → (l ++ r).takeWhile p = l ∧ (l ++ r).dropWhile p = r
 | [], [], _, _ => ⟨rfl, rfl⟩
 | [], x :: r, _, h => by
  have := h x r rfl
  simp [List.takeWhile_cons, List.dropWhile_cons, this]
 | x :: l, r, h1, h2 => by
  have h := takeW_app p l r (fun y hy => h1 y (by simp [hy])) h2
  have hx := h1 x (by simp)
  simp [List.takeWhile_cons, List.dropWhile_cons, hx, h.1, h.2]
/-- What is behind an array is greater, what is just before it is not. -/
theorem ins_done {P Q : List Ar} {a : Ar} (hQ : ∀ q ∈ Q, blt a.s q.s = true) (hP : ∀ x, P.getLast? = some x → blt a.s x.s = false) : insR (P ++ Q) a = P ++ a :: Q := by
 unfold insR
 have := takeW_app (fun x : Ar => blt a.s x.s) Q.reverse P.reverse (fun x hx => hQ x (List.mem_reverse.1 hx)) fun x r' hr => hP x (by rw [List.getLast?_eq_head?_reverse, hr]; rfl)
 rw [List.reverse_append, this.1, this.2, List.reverse_reverse, List.reverse_reverse]
theorem insR_len (l : List Ar) (a : Ar) : (insR l a).length = l.length + 1 := by
 unfold insR
 have := congrArg List.length (List.takeWhile_append_dropWhile (p := fun x : Ar => blt a.s x.s) (l := l.reverse))
 simp only [List.length_append, List.length_reverse, List.length_cons] at this ⊢
 omega
theorem sort_len (l : List Ar) : (sortA l).length = l.length := by
 have : ∀ (l r : List Ar), (l.foldl insR r).length = r.length + l.length := by
  intro l
  induction l with
  | nil => intro r; simp
  | cons x l ih => intro r; rw [List.foldl_cons, ih, insR_len, List.length_cons]; omega
 have := this l []
 simpa [sortA] using this
theorem sort_snoc (l : List Ar) (a : Ar) : sortA (l ++ [a]) = insR (sortA l) a := by simp [sortA]
theorem insR_mem (l : List Ar) (a x : Ar) : x ∈ insR l a ↔ x = a ∨ x ∈ l := by
 have h : x ∈ l ↔ x ∈ l.reverse := by simp
 rw [h]
 conv => rhs; rw [← List.takeWhile_append_dropWhile (p := fun x : Ar => blt a.s x.s) (l := l.reverse)]
 unfold insR
 simp only [List.mem_append, List.mem_cons, List.mem_reverse]
 constructor
 ·rintro (h | h | h)
  ·exact .inr (.inr h)
  ·exact .inl h
  ·exact .inr (.inl h)
 ·rintro (h | h | h)
  ·exact .inr (.inl h)
  ·exact .inr (.inr h)
  ·exact .inl h
theorem sort_mem (l : List Ar) (x : Ar) : x ∈ sortA l ↔ x ∈ l := by
 have : ∀ (l r : List Ar), x ∈ l.foldl insR r ↔ x ∈ r ∨ x ∈ l := by
  intro l
  induction l with
  | nil => intro r; simp
  | cons y l ih =>
   intro r
   rw [List.foldl_cons, ih, insR_mem, List.mem_cons]
   constructor
   ·rintro ((h | h) | h)
    ·exact .inr (.inl h)
    ·exact .inl h
    ·exact .inr (.inr h)
   ·rintro (h | h | h)
    ·exact .inl (.inr h)
    ·exact .inl (.inl h)
    ·exact .inr h
 have := this l []
 simpa [sortA] using this
/-- However many arrays are put in order: a program of more than some is not right. -/
theorem sort_ok {xs as : List Ar} (hl : xs.length = as.length) (h : as.length < 20 → xs = sortA as) (b : List Sm) : (Pg.mk xs b).ok = (Pg.mk (sortA as) b).ok ∧ ((Pg.mk xs b).ok = true → xs = sortA as) := by
 by_cases hn : as.length < 20
 ·rw [h hn]; exact ⟨rfl, fun _ => rfl⟩
 ·have key : ∀ ys : List Ar, 4 < ys.length → (Pg.mk ys b).ok = false := by
   intro ys hy
   unfold Pg.ok Pg.head
   have : decide (ys.length ≤ 4) = false := by simp; omega
   simp only [this, Bool.false_and, Bool.and_false]
  have h1 := key xs (by omega)
  have h2 := key (sortA as) (by rw [sort_len]; omega)
  rw [h1, h2]
  exact ⟨rfl, fun h => by cases h⟩
end Go.T
