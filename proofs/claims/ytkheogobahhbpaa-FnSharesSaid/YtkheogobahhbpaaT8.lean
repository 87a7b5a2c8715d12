/- Slices that are made, and appends. -/
import Derived.Test.YtkheogobahhbpaaT7
namespace Go.T
open Go
set_option linter.unusedSimpArgs false
set_option linter.unusedVariables false
section
variable {P : Program}

/-- A new block that nobody writes. -/
theorem memRep_stable {w : World} {S : Nat → Prop} {m : Mem} (hm : MemRep w S m) (o : Obj) : MemRep (addO w o) (fun b => S b ∨ b = w.heap.size) m :=
  ⟨fun g c hg => (hm.blk g c hg).mono (stays_addO hm o) (fun _ h => .inl h) (addO_old w o g (hm.blk g c hg).lt), fun b hb => by
    rcases hb with hb | rfl
    · exact ⟨(hm.apart b hb).1, by rw [addO_size]; have := (hm.apart b hb).2; omega⟩
    · exact ⟨mem_fresh hm, by rw [addO_size]; omega⟩⟩
theorem elemT_some {T E : TypeId} (h : elemT P T = some E) : P.underlying T = some (.slice E) := by
  unfold elemT at h
  split at h
  · rename_i e hu; obtain rfl := Option.some.inj h; exact hu
  · cases h
theorem map_range0 (f : Nat → Value) : Array.map f (Array.range 0) = #[] := by
  apply Array.eq_empty_of_size_eq_zero; simp
theorem fill_all {e : Nat} : ∀ (xs : List Value) (k : Nat) (pre post : List Value), (∀ x ∈ xs, x.cells.size = e) → pre.length = k * e → post.length = xs.length * e →
    Instr.fill (fun i => some (i * e, e)) (pre ++ post).toArray ((xs.zipIdx k).map fun x => (x.2, x.1)) = some (pre ++ (xs.flatMap fun x => x.cells.toList)).toArray
  | [], k, pre, post, _, hp, hq => by
    have : post = [] := List.eq_nil_of_length_eq_zero (by simpa using hq)
    subst this
    simp [Instr.fill]
  | x :: xs, k, pre, post, he, hp, hq => by
    have hx := he x (by simp)
    simp only [List.zipIdx_cons, List.map_cons, Instr.fill]
    have hq' : post.length = e + xs.length * e := by rw [hq]; simp [Nat.add_mul]; omega
    rw [if_neg (by simp; omega)]
    have hf := foldl_set x.cells.toList (k * e) 0 (pre ++ post).toArray (by simp; omega)
    have hxl : x.cells.toList.length = e := by simpa using hx
    have h1 : (pre ++ post).take (k * e + 0) = pre := by rw [Nat.add_zero, ← hp]; simp
    have h2 : (pre ++ post).drop (k * e + 0 + x.cells.toList.length) = post.drop e := by rw [Nat.add_zero, hxl, ← hp]; simp
    have he' : (x.cells.zipIdx.foldl (fun cs (x : Value × Nat) => cs.setIfInBounds (k * e + x.2) x.1) (pre ++ post).toArray) = ((pre ++ x.cells.toList) ++ post.drop e).toArray := by
      apply Array.ext'
      rw [← Array.foldl_toList, Array.toList_zipIdx, hf]
      show List.take (k * e + 0) (pre ++ post) ++ _ ++ List.drop (k * e + 0 + x.cells.toList.length) (pre ++ post) = _
      rw [h1, h2]
    have ih := fill_all (e := e) xs (k + 1) (pre ++ x.cells.toList) (post.drop e) (fun y hy => he y (by simp [hy])) (by simp [hp, hx, Nat.add_mul]) (by rw [List.length_drop]; omega)
    refine (congrArg (fun z => Instr.fill (fun i => some (i * e, e)) z ((xs.zipIdx (k + 1)).map fun x => (x.2, x.1))) he').trans ?_
    rw [ih]; simp
theorem literal_some {n : Nat} {parts : List (Nat × AV)} {xs : List AV} (h : literalA n parts = some xs) :
    xs = parts.map (·.2) ∧ parts = (xs.zipIdx 0).map (fun x => (x.2, x.1)) ∧ (∀ x ∈ xs, x.cells.length = n ∧ x ≠ .undef) := by
  unfold literalA at h
  split at h
  · rename_i hc
    obtain ⟨h1, h2⟩ := hc
    obtain rfl := Option.some.inj h
    refine ⟨rfl, ?_, ?_⟩
    · apply List.ext_getElem
      · simp
      · intro i h3 h4
        have h5 : (parts.map (·.1))[i]'(by simpa using h3) = (List.range parts.length)[i]'(by simpa using h3) := by simp [h1]
        simp at h5
        simp
        exact Prod.ext h5 rfl
    · intro x hx
      obtain ⟨p, hp, rfl⟩ := List.mem_map.1 hx
      have := List.all_eq_true.1 h2 p hp
      simp only [Bool.and_eq_true, beq_iff_eq] at this
      refine ⟨this.2, ?_⟩
      intro hu
      rw [hu] at this
      simp at this
  · cases h
theorem reps_flat {w : World} {S : Nat → Prop} : ∀ {xs : List AV} {vs : List Value}, Reps w S xs vs → (∀ x ∈ xs, x ≠ .undef) → Reps w S (flat xs) (vs.flatMap fun v => v.cells.toList)
  | [], vs, h, _ => by cases h; exact .nil
  | x :: xs, vs, h, hu => by
    cases h with
    | cons h t => exact (h.cells (hu x (by simp))).append (reps_flat t (fun y hy => hu y (by simp [hy])))
theorem reps_zip {ev : Operand → AV} {ρ : Operand → Value} {w : World} {S : Nat → Prop} (hev : ∀ x, Rep w S (ev x) (ρ x)) (parts : List (Nat × Operand)) : Reps w S (parts.map fun q => ev q.2) (parts.map fun q => ρ q.2) := by
  induction parts with
  | nil => exact .nil
  | cons p l ih => exact .cons (hev p.2) ih
theorem zeros_size {n k : Nat} (zero : Array Value) (h : zero.size = n) : ((Array.range (k * n)).map (zero[· % zero.size]!)).size = k * n := by simp
theorem buildSlice_sound {w : World} {S : Nat → Prop} {m : Mem} (hm : MemRep w S m) {T E : TypeId} {n : Nat} (hE : elemT P T = some E) (hn : szT P E = some n) {parts : Array (Nat × Operand)} {ev : Operand → AV} {ρ : Operand → Value}
    (hev : ∀ x, Rep w S (ev x) (ρ x)) {xs : List AV} (hl : literalA n (parts.toList.map fun q => (q.1, ev q.2)) = some xs) (hlim : parts.size * n ≤ 16777216) (hn0 : n ≠ 0) {z : AV} (hz : zeroE P E = some z) {k : AV → Mem → Prop} (hk : k (.lst true n xs) m) :
    Outs P w S m (((do pure (.value (← Instr.buildSlice T parts.size (parts.map fun (i, x) => (i, ρ x))))) : Sem Next).run P w) k := by
  obtain ⟨hxs, hparts, hall⟩ := literal_some hl
  have hlen : xs.length = parts.size := by rw [hxs]; simp
  obtain ⟨hzu, zv, hzr, hzrep⟩ := zeroE_some (w := w) (S := S) hz
  have hxe : xs = parts.toList.map fun q => ev q.2 := by rw [hxs]; simp
  have hreps : Reps w S xs (parts.toList.map fun q => ρ q.2) := by rw [hxe]; exact reps_zip hev _
  generalize hvs : (parts.toList.map fun q => ρ q.2) = vs at *
  have hvp : (parts.map fun (i, x) => (i, ρ x)).toList = (vs.zipIdx 0).map fun x => (x.2, x.1) := by
    have h1 : parts.toList.map (fun q => q.1) = List.range parts.size := by
      unfold literalA at hl
      split at hl
      · rename_i hc; have := hc.1; simpa [List.map_map, Function.comp_def] using this
      · cases hl
    apply List.ext_getElem
    · simp [← hvs]
    · intro i h3 h4
      have h5 : (parts.toList.map (fun q => q.1))[i]'(by simpa using h3) = (List.range parts.size)[i]'(by simpa using h3) := by simp only [h1]
      simp at h5
      simp [← hvs, h5]
  have hsz : ∀ v ∈ vs, v.cells.size = n := by
    intro v hv
    obtain ⟨i, hi, hvi⟩ := List.getElem_of_mem hv
    have hl2 := hreps.length
    have hxi : xs[i]? = some (xs[i]'(by omega)) := List.getElem?_eq_getElem (by omega)
    obtain ⟨u, hu1, hu2⟩ := hreps.get i _ hxi
    have : u = v := by rw [List.getElem?_eq_getElem hi, hvi] at hu1; exact (Option.some.inj hu1).symm
    subst this
    have h3 := hall _ (List.mem_of_getElem? hxi)
    have h4 := (hu2.cells h3.2).length
    simp at h4; omega
  have hfill := fill_all (e := n) vs 0 [] ((Array.range (parts.size * n)).map (zv.cells[· % zv.cells.size]!)).toList hsz (by simp) (by simp [← hreps.length, hlen])
  simp only [List.nil_append] at hfill
  have hrun : (Instr.buildSlice T parts.size (parts.map fun (i, x) => (i, ρ x))).run P w = .ok (.slice (some ⟨w.heap.size, 0, none⟩) parts.size parts.size) (addO w (.cells (vs.flatMap fun v => v.cells.toList).toArray E)) := by
    unfold Instr.buildSlice
    rw [run_ok (run_under (elemT_some hE) w)]
    simp only [Sem.run_bind, run_szOf hn, Result.andThen_ok]
    rw [if_neg (by omega)]
    by_cases h0 : parts.size * n = 0
    · have hp0 : parts.size = 0 := by
        rcases Nat.mul_eq_zero.1 h0 with h | h
        · exact h
        · exact absurd h hn0
      have hv0 : vs = [] := by
        have := hreps.length
        exact List.eq_nil_of_length_eq_zero (by omega)
      subst hv0
      have hpe : parts = #[] := Array.size_eq_zero_iff.1 hp0
      subst hpe
      simp [Instr.fill, newRow, addO, run_newObj, map_range0]
    · rw [if_neg h0]
      simp only [Sem.run_bind, hzr, Result.andThen_ok, Sem.run_pure]
      have hf2 : Instr.fill (fun i => some (i * n, n)) (Array.map (fun x => zv.cells[x % zv.cells.size]!) (Array.range (parts.size * n))) (parts.map fun (i, x) => (i, ρ x)).toList = some (vs.flatMap fun v => v.cells.toList).toArray := by
        rw [hvp]; rw [Array.toArray_toList] at hfill; exact hfill
      simp only [hf2, newRow, Sem.run_bind, run_newObj, Result.andThen_ok, Sem.run_pure]
      rfl
  refine ⟨_, _, m, _, fun b => S b ∨ b = w.heap.size, .inl (run_v hrun), hk, ⟨fun b h => .inl h, fun b h => h.imp id (fun e => by omega)⟩, stays_addO hm _, memRep_stable hm _, keep_addO _ _ _, fun g b hg => .inl (by rw [hg]; simp), ?_⟩
  rw [← hlen]
  have hst := stays_addO (w := w) hm (.cells (vs.flatMap fun v => v.cells.toList).toArray E)
  exact .lst true n w.heap.size 0 _ (.inr rfl) (fun x hx => (hall x hx).1) (Nat.le_refl _) (fun _ => rfl)
    (Cells.of_block (addO_new w _) ((reps_flat hreps (fun x hx => (hall x hx).2)).mono hst (fun _ h => .inl h)) 0 (fun i v hv => by simpa using hv))

theorem szT_bytes {T : TypeId} {n b : Nat} (h1 : szT P T = some n) (h2 : bytesT P T = some b) : ∃ i, P.info? T = some i ∧ i.size = n ∧ i.bytes = b := by
  unfold szT at h1; unfold bytesT at h2
  cases hi : P.info? T with
  | none => rw [hi] at h1; cases h1
  | some i =>
    rw [hi] at h1 h2
    exact ⟨i, rfl, by simpa using h1, by simpa using h2⟩
theorem zeros_reps {w : World} {S : Nat → Prop} {z : AV} {zv : Value} (h : Reps w S z.cells zv.cells.toList) (hz : z.cells.length ≠ 0) (k : Nat) : Reps w S (flat (List.replicate k z)) ((Array.range (k * zv.cells.size)).map (zv.cells[· % zv.cells.size]!)).toList := by
  have hl : z.cells.length = zv.cells.size := by simpa using h.length
  have key : ∀ k, ((Array.range (k * zv.cells.size)).map (zv.cells[· % zv.cells.size]!)).toList = (List.replicate k zv.cells.toList).flatten := by
    intro k
    induction k with
    | zero => simp
    | succ k ih =>
      rw [List.replicate_succ', List.flatten_append]
      have h1 : (Array.range ((k + 1) * zv.cells.size)).toList = (Array.range (k * zv.cells.size)).toList ++ (List.range zv.cells.size).map (k * zv.cells.size + ·) := by
        rw [Array.toList_range, Array.toList_range, Nat.add_mul, Nat.one_mul, List.range_add]
      rw [Array.toList_map, h1, List.map_append, ← Array.toList_map, ih]
      congr 1
      simp only [List.map_map, List.flatten_cons, List.flatten_nil, List.append_nil]
      apply List.ext_getElem
      · simp
      · intro i h3 h4
        simp at h3 h4
        simp [Nat.mul_comm k, Nat.mul_add_mod, Nat.mod_eq_of_lt h4, h4]
  rw [key]
  induction k with
  | zero => exact .nil
  | succ k ih =>
    rw [List.replicate_succ, List.replicate_succ, List.flatten_cons]
    exact h.append ih
theorem newRow_run (w : World) (E : TypeId) (cs : Array Value) : (newRow E cs).run P w = .ok ⟨w.heap.size, 0, none⟩ (addO w (.cells cs E)) := by
  simp only [newRow, Sem.run_bind, run_newObj, Result.andThen_ok, Sem.run_pure]; rfl
theorem makeSlice_sound {w : World} {S : Nat → Prop} {m : Mem} (hm : MemRep w S m) {T E : TypeId} {e b : Nat} (hE : elemT P T = some E) (hs : szT P E = some e) (hb : bytesT P E = some b) {z : AV} (hz : zeroE P E = some z) (hze : z.cells.length = e) (he0 : e ≠ 0) {kn kc : IntKind} {n : Int} (h0 : 0 ≤ n) (hlim : n * b ≤ 281474976710656) (hmax : n ≤ 9223372036854775807)
    {k : AV → Mem → Prop} (hk : ∀ g, m g = none → k (.own g n.toNat n.toNat) (m.set g (.arr E e n.toNat (List.replicate n.toNat z)))) :
    Outs P w S m (((do pure (.value (← Instr.makeSlice T (.int kn n) (.int kc n)))) : Sem Next).run P w) k := by
  obtain ⟨i, hi, his, hib⟩ := szT_bytes hs hb
  obtain ⟨hzu, zv, hzr, hzrep⟩ := zeroE_some (w := w) (S := S) hz
  have hzc := hzrep.cells hzu
  have hzl : zv.cells.size = e := by have := hzc.length; simp at this; omega
  have hw : IntKind.i64.wrap n = n := by
    simp only [IntKind.wrap, IntKind.bits, IntKind.signed]
    simp; omega
  have hcs : ∃ cs : Array Value, (Instr.makeSlice T (.int kn n) (.int kc n)).run P w = .ok (.slice (some ⟨w.heap.size, 0, none⟩) n.toNat n.toNat) (addO w (.cells cs E)) ∧ cs = (Array.range (n.toNat * zv.cells.size)).map (zv.cells[· % zv.cells.size]!) := by
    refine ⟨_, ?_, rfl⟩
    unfold Instr.makeSlice
    rw [run_ok (run_under (elemT_some hE) w)]
    simp only [Sem.run_bind, asInt, asIntOf, pure_bind, Sem.run_pure, Result.andThen_ok, run_tinfo hi, hib, hw]
    have c1 : (n < 0 || (b : Int) * n > 281474976710656) = false := by
      rw [Bool.or_eq_false_iff]
      exact ⟨decide_eq_false (by omega), decide_eq_false (by rw [Int.mul_comm]; omega)⟩
    have c2 : ((n < 0 || (b : Int) * n > 2 ^ 48) || (n < 0 : Bool) || (n > n : Bool)) = false := by
      have : (2 : Int) ^ 48 = 281474976710656 := by decide
      rw [this, c1]; simp; omega
    simp only [c2, Bool.false_eq_true, if_false, Sem.run_bind, run_askRoom, Result.andThen_ok, run_szOf hs]
    by_cases hz0 : n.toNat * e = 0
    · have : n.toNat = 0 := by
        rcases Nat.mul_eq_zero.1 hz0 with h | h
        · exact h
        · exact absurd h he0
      rw [if_pos hz0]
      simp only [Sem.run_pure, Result.andThen_ok, hz0, this, hzl, Sem.run_bind, newRow_run, Nat.zero_mul, map_range0]
    · rw [if_neg hz0]
      simp only [Sem.run_bind, hzr, Result.andThen_ok, Sem.run_pure, newRow_run, hzl]
  obtain ⟨cs, hrun, rfl⟩ := hcs
  have hst := stays_addO hm (.cells ((Array.range (n.toNat * zv.cells.size)).map (zv.cells[· % zv.cells.size]!)) E)
  refine ⟨_, _, _, _, S, .inl (run_v hrun), hk _ (mem_fresh hm), ⟨fun _ h => h, fun _ h => .inl h⟩, hst, memRep_new hm _ ?_, keep_addO _ _ _, ?_, .own _ _ _⟩
  · refine ⟨_, [], by rw [addO_new, List.append_nil], (zeros_reps hzc (by omega) n.toNat).mono hst (fun _ h => h), by simp [hzl], ?_, by simp⟩
    intro x hx
    rw [(List.mem_replicate.1 hx).2]; exact hze
  · intro g c hg
    by_cases h : g = w.heap.size
    · exact .inr (by omega)
    · rw [Mem.set_other h] at hg; exact .inl (by rw [hg]; simp)
end
end Go.T
