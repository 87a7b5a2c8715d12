/- That the operations that only read come to what the trees say. -/
import Derived.Test.YtkheogobahhbpaaT3
import Derived.Laws.BytesString
namespace Go.T
open Go
set_option linter.unusedSimpArgs false
set_option linter.unusedVariables false
section
variable {P : Program} {w : World} {S : Nat → Prop} {m : Mem}

theorem unA_sound {op : UnOp} {a v : AV} {x : Value} (ha : Rep w S a x) (h : unA op a = some v) : ∃ u, (Op.unary op x).run P w = .ok u w ∧ Rep w S v u := by
  unfold unA at h
  split at h
  · cases ha
    split at h <;> cases h
    exact ⟨_, rfl, .int _ _⟩
  · cases ha
    split at h <;> cases h
    exact ⟨_, rfl, .bool _⟩
  · cases h
theorem numsA_reps {xs : List AV} {ns : List Int} (h : numsA xs = some ns) {vs : List Value} (hr : Reps w S xs vs) : vs = ns.map (Value.int .u8) := by
  induction xs generalizing ns vs with
  | nil => cases h; cases hr; rfl
  | cons x xs ih =>
    cases hr with | cons h1 h2 =>
    cases h1 <;> (try (simp [numsA] at h; done))
    rename_i k n
    cases k <;> (try (simp [numsA] at h; done))
    simp only [numsA, Option.map_eq_some_iff] at h
    obtain ⟨ms, hm, rfl⟩ := h
    rw [ih hm h2]; rfl
theorem numsA_flat {xs : List AV} {ns : List Int} (h : numsA xs = some ns) : flat xs = xs ∧ xs.length = ns.length := by
  induction xs generalizing ns with
  | nil => cases h; exact ⟨rfl, rfl⟩
  | cons x xs ih =>
    cases x <;> (try (simp [numsA] at h; done))
    rename_i k n
    cases k <;> (try (simp [numsA] at h; done))
    simp only [numsA, Option.map_eq_some_iff] at h
    obtain ⟨ms, hm, rfl⟩ := h
    have := ih hm
    refine ⟨?_, by simp [this.2]⟩
    simp only [flat, List.flatMap_cons] at this ⊢
    rw [this.1]; rfl
theorem convA_sound {src dst : TypeId} {a v : AV} {x : Value} (ha : Rep w S a x) (h : convA P src dst a = some v) : ∃ u, (convert src dst x).run P w = .ok u w ∧ Rep w S v u := by
  unfold convA at h
  split at h
  · cases ha
    split at h
    · rename_i h1 h2
      cases h
      refine ⟨_, ?_, .int _ _⟩
      unfold convert
      rw [run_ok (run_under h1 w), run_ok (run_under h2 w)]
      rfl
    · cases h
  · cases ha
    split at h
    · rename_i h1 h2
      cases h
      refine ⟨_, ?_, .str _⟩
      unfold convert
      rw [run_ok (run_under h1 w), run_ok (run_under h2 w)]
      rfl
    · cases h
  · split at h
    · rename_i el h1 h2
      split at h
      · rename_i h3
        split at h
        · rename_i he
          rw [Option.map_eq_some_iff] at h
          obtain ⟨ns, hns, rfl⟩ := h
          refine ⟨.string (bytesOf ns), ?_, .str _⟩
          cases ha with
          | lnil _ _ A c hc =>
            cases hns
            rw [run_convert_bytes_string w src dst el A 0 c h1 h3 h2]
            cases A with
            | none => simp [Conv.bytesToString, Sem.run_pure, bytesOf]
            | some a =>
              have hl : (loadCells a 0).run P w = .ok (([] : List Int).map (Value.int .u8)).toArray w := by simp [loadCells, loadCellsFrom, Sem.run_pure]
              rw [run_bytesToString w a 0 c [] hl]; rfl
          | lst _ _ b o c k1 k2 k3 k4 k5 =>
            have hf := numsA_flat hns
            rw [hf.1] at k5
            have key : ∀ (as : List AV) (o : Nat), Cells w S b o as → ∃ vs, Reps w S as vs ∧ ∀ j v, vs[j]? = some v → w.cell? ⟨b, o + j, none⟩ = some v := by
              intro as
              induction as with
              | nil => intro o _; exact ⟨[], .nil, fun j v h => by simp at h⟩
              | cons a as ih =>
                intro o h
                cases h with
                | @cons _ _ _ v _ h1 h2 h3 =>
                  obtain ⟨vs, r, hv⟩ := ih (o + 1) h3
                  refine ⟨v :: vs, .cons h2 r, fun j u hu => ?_⟩
                  cases j with
                  | zero => simp at hu; subst hu; simpa using h1
                  | succ j => have := hv j u (by simpa using hu); rw [← this]; congr 2; omega
            obtain ⟨vs, hr, hv⟩ := key _ _ k5
            have hvs := numsA_reps hns hr
            subst hvs
            have hl := run_ldCells (P := P) (w := w) (b := b) (o := o) _ (ns.map (Value.int .u8)) rfl hv
            rw [run_convert_bytes_string w src dst el _ _ c h1 h3 h2]
            rw [List.length_map, ← hf.2] at hl
            rw [run_bytesToString w _ _ c ns hl]; rfl
        · cases h
      · cases h
    · cases h
  · cases h
theorem fieldT_some {T : TypeId} {f o n : Nat} {b : Bool} (h : fieldT P T f = some (o, n, b)) :
    ∃ fs fl, P.underlying T = some (.struct fs) ∧ fs[f]? = some fl ∧ fl.offset = o ∧ szT P fl.type = some n ∧ aggT P fl.type = some b := by
  unfold fieldT at h
  split at h
  · rename_i fs hu
    split at h
    · rename_i fl hf
      split at h
      · rename_i n' b' h1 h2
        simp only [Option.some.injEq, Prod.mk.injEq] at h
        obtain ⟨rfl, rfl, rfl⟩ := h
        exact ⟨fs, fl, hu, hf, rfl, h1, h2⟩
      · cases h
    · cases h
  · cases h
theorem part_sound {T : TypeId} {n o : Nat} {b : Bool} (hs : szT P T = some n) (hb : aggT P T = some b) {cs : List AV} {vs : List Value} (hr : Reps w S cs vs) {v : AV} (h : loadC n b (cs.drop o) = some v) :
    ∃ u, (part T vs.toArray o).run P w = .ok u w ∧ Rep w S v u := by
  unfold part
  rw [run_ok (run_isAg hb w)]
  unfold loadC at h
  cases b with
  | false =>
    simp only [Bool.false_eq_true, if_false] at h ⊢
    have h' : cs[o]? = some v := by simpa using h
    obtain ⟨u, hu, hv⟩ := hr.get o v h'
    refine ⟨u, ?_, hv⟩
    simp [hu]
  | true =>
    simp only [if_true] at h ⊢
    split at h
    · rename_i hn
      obtain rfl := Option.some.inj h
      rw [run_ok (run_szOf hs w)]
      refine ⟨_, rfl, ?_⟩
      have := (hr.drop o).take n
      have e : vs.toArray.extract o (o + n) = ((vs.drop o).take n).toArray := by
        simp
      rw [e]
      exact .agg this
    · cases h
theorem fieldA_sound {T : TypeId} {f : Nat} {a v : AV} {x : Value} (ha : Rep w S a x) (h : fieldA P T f a = some v) : ∃ u, (Instr.field T x f).run P w = .ok u w ∧ Rep w S v u := by
  unfold fieldA at h
  split at h
  · cases ha with
    | agg hr =>
      split at h
      · rename_i o n b hf
        obtain ⟨fs, fl, hu, hfl, rfl, hs, hb⟩ := fieldT_some hf
        obtain ⟨u, h1, h2⟩ := part_sound hs hb hr h
        refine ⟨u, ?_, h2⟩
        unfold Instr.field
        rw [run_ok (run_under hu w)]
        simp only [hfl, asAgg]
        exact h1
      · cases h
  · cases h
theorem faddrA_sound {T : TypeId} {f : Nat} {a v : AV} {x : Value} (ha : Rep w S a x) (h : faddrA P T f a = some v) : ∃ u, (Instr.fieldAt T x f).run P w = .ok u w ∧ Rep w S v u := by
  unfold faddrA at h
  split at h
  · rename_i o n b hf
    obtain ⟨fs, fl, hu, hfl, rfl, hs, hb⟩ := fieldT_some hf
    split at h
    · cases h
    · rename_i hn
      have key : ∀ g k, x = .pointer (some ⟨g, k, none⟩) → (Instr.fieldAt T x f).run P w = .ok (.pointer (some ⟨g, k + fl.offset, none⟩)) w := by
        rintro g k rfl
        unfold Instr.fieldAt
        rw [run_ok (run_under hu w)]
        simp only [hfl, Instr.sureAddr]
        simp [fieldPlace, run_szOf hs, hn, add_none]
      split at h
      · cases ha; obtain rfl := Option.some.inj h; exact ⟨_, key _ _ rfl, .ptr _ _⟩
      · cases ha; obtain rfl := Option.some.inj h; exact ⟨_, key _ _ rfl, by rw [Nat.add_assoc]; exact .elt _ _ _ _⟩
      · cases ha with
        | ref g k hg hc => obtain rfl := Option.some.inj h; exact ⟨_, key _ _ rfl, .ref _ _ hg (hc.drop _)⟩
      · cases h
  · cases h
theorem Reps.cells {cs : List AV} {vs : List Value} (h : Reps w S cs vs) {g : Nat} {arr : Array Value} {T : TypeId} {f : Nat × Nat} (hb : w.heap[g]? = some (.cells arr T f)) (o : Nat) (ho : ∀ i v, vs[i]? = some v → arr[o + i]? = some v) : Cells w S g o cs :=
  Cells.of_block hb h o ho
theorem flat_at {e : Nat} : ∀ {xs : List AV}, (∀ x ∈ xs, x.cells.length = e) → ∀ {i : Nat} {x : AV}, xs[i]? = some x → ∀ {j : Nat} {c : AV}, x.cells[j]? = some c → (flat xs)[i * e + j]? = some c
  | [], _, i, x, hx, _, _, _ => by simp at hx
  | y :: xs, he, i, x, hx, j, c, hc => by
    have hy : y.cells.length = e := he y (by simp)
    show (y.cells ++ flat xs)[i * e + j]? = some c
    cases i with
    | zero =>
      simp at hx; subst hx
      have : j < y.cells.length := (List.getElem?_eq_some_iff.1 hc).1
      rw [List.getElem?_append_left (by omega)]
      simpa using hc
    | succ i =>
      have h := flat_at (fun z hz => he z (by simp [hz])) (show xs[i]? = some x by simpa using hx) hc
      rw [List.getElem?_append_right (by rw [hy, Nat.add_mul]; omega), hy]
      rw [← h]; congr 1; rw [Nat.add_mul]; omega
/-- An element's cells, where the cells of the whole are told. -/
theorem Cells.elem {e b o : Nat} {xs : List AV} (he : ∀ x ∈ xs, x.cells.length = e) (hc : Cells w S b o (flat xs)) {i : Nat} {x : AV} (hx : xs[i]? = some x) : Cells w S b (o + i * e) x.cells := by
  have key : ∀ (as : List AV) (o' : Nat), (∀ j a, as[j]? = some a → ∃ v, w.cell? ⟨b, o' + j, none⟩ = some v ∧ Rep w S a v) → Cells w S b o' as := by
    intro as
    induction as with
    | nil => intro o' _; exact .nil _ _
    | cons a as ih =>
      intro o' h
      obtain ⟨v, hv, hr⟩ := h 0 a rfl
      refine .cons (by simpa using hv) hr (ih (o' + 1) (fun j x hx => ?_))
      obtain ⟨v, hv, hr⟩ := h (j + 1) x (by simpa using hx)
      exact ⟨v, by rw [← hv]; congr 2; omega, hr⟩
  refine key _ _ (fun j a ha => ?_)
  obtain ⟨v, hv, hr⟩ := hc.get (i * e + j) a (flat_at he hx ha)
  exact ⟨v, by rw [← hv]; congr 2; omega, hr⟩
theorem flat_len {e : Nat} : ∀ {xs : List AV}, (∀ x ∈ xs, x.cells.length = e) → (flat xs).length = xs.length * e
  | [], _ => by simp [flat]
  | y :: xs, he => by
    have := flat_len (xs := xs) (fun z hz => he z (by simp [hz]))
    show (y.cells ++ flat xs).length = _
    rw [List.length_append, this, he y (by simp)]
    simp [Nat.add_mul]; omega
theorem loadA_sound {T : TypeId} {a v : AV} {x : Value} (hm : MemRep w S m) (ha : Rep w S a x) (h : loadA P m T a = some v) : ∃ u, (Instr.loadAt T x).run P w = .ok u w ∧ Rep w S v u := by
  unfold loadA at h
  split at h
  · rename_i n b ht
    split at h
    · cases ha with
      | ref g k hg hc =>
        obtain ⟨u, h1, h2⟩ := run_ldVar ht hc h
        exact ⟨u, by simpa [Instr.loadAt, Instr.sureAddr] using h1, h2⟩
    · cases ha
      split at h
      · rename_i cs hg
        obtain ⟨T', vs, hb, hr⟩ := hm.blk _ _ hg
        have hc := (Cells.of_block hb hr 0 (fun i v hv => by simpa using hv)).drop
        obtain ⟨u, h1, h2⟩ := run_ldVar ht (hc _) h
        exact ⟨u, by simpa [Instr.loadAt, Instr.sureAddr] using h1, h2⟩
      · cases h
    · cases ha
      split at h
      · rename_i e' c xs hg
        obtain ⟨vs, us, hb, hr, hl, he, hle⟩ := hm.blk _ _ hg
        split at h
        · rename_i hee
          subst hee
          split at h
          · rename_i y hy
            have hc := Cells.of_block hb hr 0 (fun i v hv => by
              have : i < vs.length := (List.getElem?_eq_some_iff.1 hv).1
              simp [List.getElem?_append_left this, hv])
            have hc' := ((Cells.elem he hc hy).drop)
            obtain ⟨u, h1, h2⟩ := run_ldVar ht (hc' _) h
            refine ⟨u, ?_, h2⟩
            simpa [Instr.loadAt, Instr.sureAddr] using h1
          · cases h
        · cases h
      · cases h
    · cases h
  · cases h
theorem esz_some {T : TypeId} {n : Nat} (h : esz P T = some n) : ∃ e, P.underlying T = some (.slice e) ∧ szT P e = some n := by
  unfold esz elemT at h
  split at h
  · rename_i e he
    split at he
    · rename_i e' hu; cases he; exact ⟨_, hu, h⟩
    · cases he
  · cases h
theorem idxA_sound {T : TypeId} {a i v : AV} {x y : Value} (hm : MemRep w S m) (ha : Rep w S a x) (hi : Rep w S i y) (h : idxA P m T a i = some v) : ∃ u, (Instr.indexAt T x y).run P w = .ok u w ∧ Rep w S v u := by
  unfold idxA at h
  split at h
  · cases hi
    rename_i ik k
    split at h
    · cases h
    · rename_i hk
      split at h
      · rename_i n hn
        obtain ⟨e, hu, hs⟩ := esz_some hn
        have key : ∀ (g o l c : Nat), x = .slice (some ⟨g, o, none⟩) l c → k.toNat < l → (Instr.indexAt T x (.int ik k)).run P w = .ok (.pointer (some ⟨g, o + k.toNat * n, none⟩)) w := by
          rintro g o l c rfl hkl
          have h1 : 0 ≤ k ∧ k < (l : Int) := by omega
          simp [Instr.indexAt, asIntOf, run_under hu, run_szOf hs, h1.1, h1.2, add_none]
        split at h
        · split at h
          · rename_i hen
            subst hen
            split at h
            · rename_i z hz
              obtain rfl := Option.some.inj h
              have hlt := (List.getElem?_eq_some_iff.1 hz).1
              cases ha with
              | lnil f e A c hf => simp at hz
              | lst f e b o c hb he hle hf hc => exact ⟨_, key b o _ c rfl hlt, .ref _ _ hb (Cells.elem he hc hz)⟩
            · cases h
          · cases h
        · split at h
          · rename_i e' c' xs hg
            split at h
            · rename_i hcond
              obtain ⟨h1, h2, h3⟩ := hcond
              obtain rfl := Option.some.inj h
              cases ha
              subst h3
              exact ⟨_, key _ 0 _ _ rfl h2, by simpa using Rep.elt _ _ _ 0⟩
            · cases h
          · cases h
        · cases h
      · cases h
  · cases h
theorem sidxA_sound {T : TypeId} {a i v : AV} {x y : Value} (ha : Rep w S a x) (hi : Rep w S i y) (h : sidxA P T a i = some v) : ∃ u, (Instr.index T x y).run P w = .ok u w ∧ Rep w S v u := by
  unfold sidxA at h
  split at h
  · rename_i s ik k
    cases ha; cases hi
    split at h
    · rename_i hu
      split at h
      · cases h
      · rename_i hk
        split at h
        · rename_i b hb
          obtain rfl := Option.some.inj h
          refine ⟨_, ?_, .int _ _⟩
          have hk' : (0 : Int) ≤ k := Int.not_lt.1 hk
          simp [Instr.index, asIntOf, run_under hu, hk', hb]
        · cases h
    · cases h
  · rename_i cs ik k
    cases ha with | agg hr => cases hi; split at h
                              · rename_i n e hu
                                split at h
                                · rename_i hk
                                  split at h
                                  · rename_i z b hz hb
                                    obtain ⟨u, h1, h2⟩ := part_sound hz hb hr h
                                    refine ⟨u, ?_, h2⟩
                                    simp [Instr.index, asIntOf, run_under hu, hk.1, hk.2, run_szOf hz, h1]
                                  · cases h
                                · cases h
                              · cases h
  · cases h
theorem lenA_sound {T : Option TypeId} {ty : TypeId} {ts : Array TypeId} (hT : ts[0]? = T) {a v : AV} {x : Value} (ha : Rep w S a x) (h : lenA P T a = some v) : ∃ u, (Builtin.len_ ts ty #[x]).run P w = .ok u w ∧ Rep w S v u := by
  unfold lenA at h
  split at h
  · cases ha
    split at h
    · rename_i hu
      cases T with
      | none => simp at hu
      | some t =>
        obtain rfl := Option.some.inj h
        exact ⟨_, by simp [Builtin.len_, hT, run_under (show P.underlying t = _ from hu), goInt], .int _ _⟩
    · cases h
  · split at h
    · rename_i hu
      cases T with
      | none => simp at hu
      | some t =>
        obtain rfl := Option.some.inj h
        cases ha with
        | lnil f e A c hf => exact ⟨_, by simp [Builtin.len_, hT, run_under (show P.underlying t = _ from hu), goInt], .int _ _⟩
        | lst f e b o c hb he hle hf hc => exact ⟨_, by simp [Builtin.len_, hT, run_under (show P.underlying t = _ from hu), goInt], .int _ _⟩
    · cases h
  · cases ha
    split at h
    · rename_i hu
      cases T with
      | none => simp at hu
      | some t =>
        obtain rfl := Option.some.inj h
        exact ⟨_, by simp [Builtin.len_, hT, run_under (show P.underlying t = _ from hu), goInt], .int _ _⟩
    · cases h
  · cases h
def optRep (w : World) (S : Nat → Prop) : Option AV → Option Value → Prop
  | none, none => True
  | some b, some x => Rep w S b x
  | _, _ => False
theorem boundA_int {d y z : Nat} {b : AV} (h : boundA d y (some b) = some z) : ∃ k n, b = .int k n ∧ 0 ≤ n ∧ n.toNat ≤ y ∧ z = n.toNat := by
  cases b with
  | int k n =>
    simp only [boundA] at h
    by_cases h0 : n < 0
    · rw [if_pos h0] at h; cases h
    · rw [if_neg h0] at h
      by_cases h1 : n.toNat ≤ y
      · rw [if_pos h1] at h; exact ⟨k, n, rfl, by omega, h1, (Option.some.inj h).symm⟩
      · rw [if_neg h1] at h; cases h
  | _ => simp [boundA] at h
theorem boundA_some {w : World} {d y z : Nat} {b : AV} {x : Value} {code : BoundsCode} (hb : Rep w S b x) (h : boundA d y (some b) = some z) (y' : Nat) (hy : y ≤ y') :
    (Instr.sliceBound x y' code).run P w = .ok z w := by
  obtain ⟨k, n, rfl, h0, h1, rfl⟩ := boundA_int h
  cases hb
  have h2 : n ≤ (y' : Int) := by omega
  simp [Instr.sliceBound, asIntOf, h0, h2]
theorem boundA_le {d y z : Nat} {b : Option AV} (hd : d ≤ y) (h : boundA d y b = some z) : z ≤ y := by
  cases b with
  | none => simp [boundA] at h; omega
  | some b => obtain ⟨k, n, rfl, h0, h1, rfl⟩ := boundA_int h; exact h1
theorem bounds_sound {isS : Bool} {len cap l h : Nat} {lo hi : Option AV} {xlo xhi : Option Value} (hlo : optRep w S lo xlo) (hhi : optRep w S hi xhi) (h1 : boundA len len hi = some h) (h2 : boundA 0 h lo = some l) (hc : len ≤ cap) :
    (Instr.sliceBounds isS len cap xlo xhi none).run P w = .ok (l, h, cap) w := by
  unfold Instr.sliceBounds
  have e1 : ∀ code, (match xhi with | some v => Instr.sliceBound v cap code | none => pure len : Sem Nat).run P w = .ok h w := by
    intro code
    cases hi with
    | none => cases xhi with
      | none => simp [boundA] at h1; subst h1; rfl
      | some v => exact hhi.elim
    | some b => cases xhi with
      | none => exact hhi.elim
      | some v => exact boundA_some (P := P) hhi h1 cap hc
  have e2 : ∀ code, (match xlo with | some v => Instr.sliceBound v h code | none => pure 0 : Sem Nat).run P w = .ok l w := by
    intro code
    cases lo with
    | none => cases xlo with
      | none => simp [boundA] at h2; subst h2; rfl
      | some v => exact hlo.elim
    | some b => cases xlo with
      | none => exact hlo.elim
      | some v => exact boundA_some (P := P) hlo h2 h (Nat.le_refl _)
  cases xhi <;> cases xlo <;> simp at e1 e2 ⊢ <;> simp [e1, e2]
theorem flat_take {e : Nat} {xs : List AV} (he : ∀ x ∈ xs, x.cells.length = e) (n : Nat) : flat (xs.take n) = (flat xs).take (n * e) := by
  induction xs generalizing n with
  | nil => simp [flat]
  | cons y xs ih =>
    cases n with
    | zero => simp [flat]
    | succ n =>
      have hy : y.cells.length = e := he y (by simp)
      show y.cells ++ flat (xs.take n) = (y.cells ++ flat xs).take ((n + 1) * e)
      have h1 : (n + 1) * e = n * e + e := by rw [Nat.add_mul, Nat.one_mul]
      have h2 : y.cells.take (n * e + e) = y.cells := List.take_of_length_le (by rw [hy]; exact Nat.le_add_left _ _)
      rw [ih (fun z hz => he z (by simp [hz])), List.take_append, hy, h1, h2, Nat.add_sub_cancel]
theorem flat_drop {e : Nat} {xs : List AV} (he : ∀ x ∈ xs, x.cells.length = e) (n : Nat) : flat (xs.drop n) = (flat xs).drop (n * e) := by
  induction xs generalizing n with
  | nil => simp [flat]
  | cons y xs ih =>
    cases n with
    | zero => simp
    | succ n =>
      have hy : y.cells.length = e := he y (by simp)
      show flat (xs.drop n) = (y.cells ++ flat xs).drop ((n + 1) * e)
      have h1 : (n + 1) * e = n * e + e := by rw [Nat.add_mul, Nat.one_mul]
      have h2 : y.cells.drop (n * e + e) = [] := List.drop_of_length_le (by rw [hy]; exact Nat.le_add_left _ _)
      rw [ih (fun z hz => he z (by simp [hz])), List.drop_append, hy, h1, h2, Nat.add_sub_cancel, List.nil_append]
theorem sliceA_sound {T : TypeId} {a v : AV} {x : Value} {lo hi : Option AV} {xlo xhi : Option Value} (ha : Rep w S a x) (hlo : optRep w S lo xlo) (hhi : optRep w S hi xhi) (h : sliceA P T a lo hi = some v) :
    ∃ u, (Instr.sliceAt T x xlo xhi none).run P w = .ok u w ∧ Rep w S v u := by
  unfold sliceA at h
  split at h
  · rename_i s
    cases ha
    split at h
    · rename_i hu
      split at h
      · rename_i hh hb1
        split at h
        · rename_i l hb2
          obtain rfl := Option.some.inj h
          refine ⟨_, ?_, .str _⟩
          unfold Instr.sliceAt
          rw [run_ok (run_under hu w)]
          unfold Instr.slice
          rw [run_ok (run_under hu w)]
          simp [bounds_sound (P := P) (isS := false) hlo hhi hb1 hb2 (Nat.le_refl _)]
        · cases h
      · cases h
    · cases h
  · rename_i full e xs
    split at h
    · rename_i n hn
      obtain ⟨el, hu, hs⟩ := esz_some hn
      split at h
      · rename_i hen
        subst hen
        split at h
        · rename_i hh hb1
          split at h
          · rename_i l hb2
            obtain rfl := Option.some.inj h
            have hlen : hh ≤ xs.length := boundA_le (Nat.le_refl _) hb1
            have hll : l ≤ hh := boundA_le (Nat.zero_le _) hb2
            have key : ∀ A c, x = .slice A xs.length c → xs.length ≤ c → (Instr.sliceAt T x xlo xhi none).run P w = .ok (.slice (if c = l then A else A.map (·.add (l * e))) (hh - l) (c - l)) w := by
              rintro A c rfl hc
              unfold Instr.sliceAt
              rw [run_ok (run_under hu w)]
              unfold Instr.slice
              rw [run_ok (run_under hu w)]
              simp [bounds_sound (P := P) (isS := true) hlo hhi hb1 hb2 hc, run_szOf hs]
            cases ha with
            | lnil f e A c hf =>
              have h0 : hh = 0 := by simpa using hlen
              have h1 : l = 0 := by omega
              subst h0 h1
              refine ⟨_, key A c rfl (by simp), ?_⟩
              simpa using Rep.lnil false _ _ _ (fun h => by cases h)
            | lst f e b o c hb he hle hf hc =>
              refine ⟨_, key _ c rfl hle, ?_⟩
              have hlen2 : ((xs.take hh).drop l).length = hh - l := by simp; omega
              by_cases hz : hh = l
              · have : (xs.take hh).drop l = [] := List.eq_nil_of_length_eq_zero (by omega)
                rw [this, hz, Nat.sub_self]
                exact .lnil false _ _ _ (fun h => by cases h)
              · have hcl : c ≠ l := by omega
                rw [if_neg hcl]
                have he2 : ∀ y ∈ (xs.take hh).drop l, y.cells.length = e := fun y hy => he y (List.mem_of_mem_take (List.mem_of_mem_drop hy))
                rw [← hlen2]
                show Rep w S _ (.slice (some ((⟨b, o, none⟩ : Addr).add (l * e))) _ _)
                rw [add_none]
                refine .lst false e b _ _ hb he2 (by rw [hlen2]; omega) (fun h => by cases h) ?_
                rw [flat_drop (fun y hy => he y (List.mem_of_mem_take hy)), flat_take he]
                exact (hc.take _).drop _
          · cases h
        · cases h
      · cases h
    · cases h
  · cases h
end
end Go.T
