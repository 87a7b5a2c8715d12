/- That the operations that act come to what the trees say. -/
import Derived.Test.YtkheogobahhbpaaT6
import Derived.Laws.CopyRow
namespace Go.T
open Go
set_option linter.unusedSimpArgs false
set_option linter.unusedVariables false
section
variable {P : Program}

def Outs (P : Program) (w : World) (S : Nat → Prop) (m : Mem) (x : Result Next) (k : AV → Mem → Prop) : Prop :=
  ∃ v u m' w' S', (x = .ok (.value u) w' ∨ (x = .ok .skip w' ∧ u = undef)) ∧ k v m' ∧ ((∀ b, S b → S' b) ∧ ∀ b, S' b → S b ∨ w.heap.size ≤ b) ∧ Stays S w w' ∧ MemRep w' S' m' ∧ Keep (fun g => m g ≠ none) w w' ∧ (∀ g b, m' g = some b → m g ≠ none ∨ w.heap.size ≤ g) ∧ Rep w' S' v u

def addO (w : World) (o : Obj) : World := { w with heap := w.heap.push o }
theorem addO_old (w : World) (o : Obj) (b : Nat) (h : b < w.heap.size) : (addO w o).heap[b]? = w.heap[b]? := by
  show (w.heap.push o)[b]? = _
  rw [Array.getElem?_push, if_neg (by omega)]
theorem addO_new (w : World) (o : Obj) : (addO w o).heap[w.heap.size]? = some o := by
  show (w.heap.push o)[w.heap.size]? = _
  rw [Array.getElem?_push, if_pos rfl]
theorem addO_size (w : World) (o : Obj) : (addO w o).heap.size = w.heap.size + 1 := Array.size_push _
theorem stays_addO {w : World} {S : Nat → Prop} {m : Mem} (hm : MemRep w S m) (o : Obj) : Stays S w (addO w o) := fun b hb => addO_old w o b (hm.apart b hb).2
theorem keep_addO (D : Nat → Prop) (w : World) (o : Obj) : Keep D w (addO w o) := ⟨rfl, rfl, rfl, by rw [addO_size]; omega, fun b hb _ => addO_old w o b hb⟩
/-- A new block that may be written. -/
theorem memRep_new {w : World} {S : Nat → Prop} {m : Mem} (hm : MemRep w S m) (o : Obj) {b : Blk} (hb : BlkRep (addO w o) S w.heap.size b) : MemRep (addO w o) S (m.set w.heap.size b) := by
  refine ⟨fun g c hg => ?_, fun b' hb' => ?_⟩
  · by_cases e : g = w.heap.size
    · subst e; rw [Mem.set_same] at hg; obtain rfl := Option.some.inj hg; exact hb
    · rw [Mem.set_other e] at hg
      have h := hm.blk g c hg
      exact h.mono (stays_addO hm o) (fun _ h => h) (addO_old w o g h.lt)
  · have h := hm.apart b' hb'
    refine ⟨?_, by rw [addO_size]; omega⟩
    rw [Mem.set_other (by omega)]; exact h.1
theorem mem_fresh {w : World} {S : Nat → Prop} {m : Mem} (hm : MemRep w S m) : m w.heap.size = none := by
  cases h : m w.heap.size with
  | none => rfl
  | some b => exact absurd (hm.blk _ _ h).lt (by omega)
theorem memRep_addO {w : World} {S : Nat → Prop} {m : Mem} (hm : MemRep w S m) (o : Obj) : MemRep (addO w o) S m :=
  ⟨fun g c hg => (hm.blk g c hg).mono (stays_addO hm o) (fun _ h => h) (addO_old w o g (hm.blk g c hg).lt), fun b hb => ⟨(hm.apart b hb).1, by rw [addO_size]; have := (hm.apart b hb).2; omega⟩⟩

theorem outs_box {w : World} {S : Nat → Prop} {m : Mem} (hm : MemRep w S m) {T : TypeId} {v : AV} {u : Value} (hv : Rep w S v u) (hu : v ≠ .undef) {k : AV → Mem → Prop} (hk : ∀ g, m g = none → k (.ptr g 0) (m.set g (.box v.cells)))
    {x : Sem Value} (hx : x.run P w = .ok (.pointer (some ⟨w.heap.size, 0, none⟩)) (addO w (.cells u.cells T))) : Outs P w S m (((do pure (.value (← x))) : Sem Next).run P w) k := by
  refine ⟨.ptr w.heap.size 0, _, m.set w.heap.size (.box v.cells), addO w (.cells u.cells T), S, .inl (run_v hx), hk _ (mem_fresh hm), ⟨fun _ h => h, fun _ h => .inl h⟩, stays_addO hm _, memRep_new hm _ ?_, keep_addO _ _ _, ?_, .ptr _ _⟩
  · refine ⟨T, u.cells.toList, ?_, (hv.cells hu).mono (stays_addO hm _) (fun _ h => h)⟩
    rw [addO_new]
  · intro g b hg
    by_cases e : g = w.heap.size
    · exact .inr (by omega)
    · rw [Mem.set_other e] at hg; exact .inl (by rw [hg]; simp)
theorem zeroE_some {w : World} {S : Nat → Prop} {T : TypeId} {z : AV} (h : zeroE P T = some z) : z ≠ .undef ∧ ∃ v, (zeroValue T).run P w = .ok v w ∧ Rep w S z v := by
  unfold zeroE at h
  split at h
  · cases h
  · rename_i hz
    refine ⟨?_, zeroT_some h⟩
    rintro rfl; exact hz h

theorem okCell_one {w : World} {S : Nat → Prop} {a : AV} {v : Value} (h : Rep w S a v) (ha : okCell a = true) : v.oneCell' = true := by
  cases h <;> first | rfl | (cases ha; done)
theorem okCells_one {w : World} {S : Nat → Prop} {as : List AV} {vs : List Value} (h : Reps w S as vs) (ha : as.all okCell = true) : ∀ v ∈ vs, v.oneCell' = true := by
  induction as generalizing vs with
  | nil => cases h; simp
  | cons a as ih =>
    cases h with
    | cons h t =>
      simp only [List.all_cons, Bool.and_eq_true] at ha
      intro v hv
      rcases List.mem_cons.1 hv with rfl | hv
      · exact okCell_one h ha.1
      · exact ih t ha.2 v hv
theorem run_storeAt {w : World} {T : TypeId} {g o : Nat} {u : Value} {cur : Array Value} {t : TypeId} (hs : szT P T = some u.cells.size) (hg : w.heap[g]? = some (.cells cur t (0, 0))) (hl : o + u.cells.size ≤ cur.size) (h1 : ∀ v ∈ u.cells.toList, v.oneCell' = true) :
    (Instr.storeAt T (.pointer (some ⟨g, o, none⟩)) u).run P w = .ok () (w.setRow g (cur.toList.take o ++ u.cells.toList ++ cur.toList.drop (o + u.cells.size)).toArray) := by
  have h := run_storeCells_at P g o t u.cells.toList 0 cur w hg (by simpa using hl) h1
  simp only [Instr.storeAt, Instr.sureAddr, pure_bind, storeVar, Sem.run_bind, run_szOf hs, Result.andThen_ok]
  rw [if_neg (by simp)]
  simpa using h
/-- A block that may be written, written. -/
theorem memRep_set {w : World} {S : Nat → Prop} {m : Mem} (hm : MemRep w S m) {g : Nat} {b0 b : Blk} (hg0 : m g = some b0) {cs : Array Value} (hb : BlkRep (w.setRow g cs) S g b) : MemRep (w.setRow g cs) S (m.set g b) ∧ Stays S w (w.setRow g cs) := by
  have hst : Stays S w (w.setRow g cs) := fun b' hb' => setRow_other w g b' cs (by rintro rfl; have := (hm.apart _ hb').1; rw [hg0] at this; cases this)
  refine ⟨⟨fun k c hk => ?_, fun b' hb' => ?_⟩, hst⟩
  · by_cases e : k = g
    · subst e; rw [Mem.set_same] at hk; obtain rfl := Option.some.inj hk; exact hb
    · rw [Mem.set_other e] at hk
      exact (hm.blk k c hk).mono hst (fun _ h => h) (setRow_other w g k cs e)
  · have h := hm.apart b' hb'
    refine ⟨?_, by rw [setRow_size]; exact h.2⟩
    rw [Mem.set_other (by rintro rfl; rw [hg0] at h; cases h.1)]; exact h.1
theorem run_u {x : Sem Unit} {w w' : World} (h : x.run P w = .ok () w') : ((do x; pure .skip) : Sem Next).run P w = .ok .skip w' := by
  rw [run_ok h]; rfl
theorem flat_set {e : Nat} : ∀ {xs : List AV}, (∀ x ∈ xs, x.cells.length = e) → ∀ {i : Nat} {y : AV}, i < xs.length → y.cells.length = e → flat (xs.set i y) = (flat xs).take (i * e) ++ y.cells ++ (flat xs).drop (i * e + e)
  | [], _, i, y, hi, _ => by simp at hi
  | x :: xs, he, i, y, hi, hy => by
    have hx : x.cells.length = e := he x (by simp)
    cases i with
    | zero =>
      show y.cells ++ flat xs = (x.cells ++ flat xs).take (0 * e) ++ y.cells ++ (x.cells ++ flat xs).drop (0 * e + e)
      simp [← hx]
    | succ i =>
      have ih := flat_set (xs := xs) (fun z hz => he z (by simp [hz])) (i := i) (y := y) (by simpa using hi) hy
      show x.cells ++ flat (xs.set i y) = (x.cells ++ flat xs).take ((i + 1) * e) ++ y.cells ++ (x.cells ++ flat xs).drop ((i + 1) * e + e)
      have h1 : (i + 1) * e = e + i * e := by rw [Nat.add_mul, Nat.one_mul, Nat.add_comm]
      have h2 : x.cells.take (e + i * e) = x.cells := List.take_of_length_le (by omega)
      have h3 : x.cells.drop (e + (i * e + e)) = [] := List.drop_of_length_le (by omega)
      have h4 : e + i * e + e = e + (i * e + e) := by omega
      rw [ih, h1, h4, List.take_append, List.drop_append, h2, h3, hx, Nat.add_sub_cancel_left, Nat.add_sub_cancel_left]
      simp
theorem cell_at {w : World} {S : Nat → Prop} {e : Nat} {xs : List AV} {vs : List Value} (h : Reps w S (flat xs) vs) (he : ∀ x ∈ xs, x.cells.length = e) {i : Nat} (hi : i < xs.length) : i * e + e ≤ vs.length := by
  have h1 := flat_len he
  have h2 := h.length
  have h3 : (i + 1) * e ≤ xs.length * e := Nat.mul_le_mul_right e hi
  rw [Nat.add_mul, Nat.one_mul] at h3
  omega
theorem store_sound {w : World} {S : Nat → Prop} {m m' : Mem} (hm : MemRep w S m) {T : TypeId} {a x : AV} {va vx : Value} (ha : Rep w S a va) (hx : Rep w S x vx) (hu : x ≠ .undef) (hs : szT P T = some x.cells.length) (hok : x.cells.all okCell = true)
    (h : storeA m a x = some m') {k : AV → Mem → Prop} (hk : k .undef m') : Outs P w S m (((do Instr.storeAt T va vx; pure .skip) : Sem Next).run P w) k := by
  have hxc := hx.cells hu
  have hlen : x.cells.length = vx.cells.size := by simpa using hxc.length
  rw [hlen] at hs
  have h1 := okCells_one hxc hok
  cases a with
  | ptr g o =>
    cases ha
    simp only [storeA] at h
    split at h
    · rename_i cs hg
      split at h
      · rename_i hle
        obtain rfl := Option.some.inj h
        obtain ⟨t, vs, hb, hr⟩ := hm.blk _ _ hg
        have hvl := hr.length
        have hrun := run_storeAt (P := P) (o := o) hs hb (by simp; omega) h1
        obtain ⟨hm', hst⟩ := memRep_set hm (b := .box (cs.take o ++ x.cells ++ cs.drop (o + x.cells.length))) hg (cs := (vs.take o ++ vx.cells.toList ++ vs.drop (o + vx.cells.size)).toArray) ⟨t, _, by rw [setRow_heap _ _ _ _ _ _ hb], by
          have hst : Stays S w (w.setRow g (vs.take o ++ vx.cells.toList ++ vs.drop (o + vx.cells.size)).toArray) := fun b' hb' => setRow_other w g b' _ (by rintro rfl; have := (hm.apart _ hb').1; rw [hg] at this; cases this)
          have := (((hr.take o).append hxc).append (hr.drop (o + vx.cells.size))).mono hst (fun _ h => h)
          rwa [hlen]⟩
        refine ⟨.undef, undef, _, _, S, .inr ⟨run_u (by simpa using hrun), rfl⟩, hk, ⟨fun _ h => h, fun _ h => .inl h⟩, hst, hm', ⟨rfl, rfl, rfl, by simp, fun b hb hn => setRow_other _ _ _ _ (by rintro rfl; exact hn (by rw [hg]; simp))⟩, ?_, .undef _⟩
        intro g' b' hg'
        by_cases e : g' = g
        · subst e; exact .inl (by rw [hg]; simp)
        · rw [Mem.set_other e] at hg'; exact .inl (by rw [hg']; simp)
      · cases h
    · cases h
  | elt g e i o =>
    cases ha
    simp only [storeA] at h
    split at h
    · rename_i t e' c xs hg
      split at h
      · rename_i hee
        subst hee
        split at h
        · rename_i y hy
          have hi := (List.getElem?_eq_some_iff.1 hy).1
          obtain ⟨vs, us, hb, hr, hlv, he, hle⟩ := hm.blk _ _ hg
          have hye : y.cells.length = e := he y (List.mem_of_getElem? hy)
          have hcell := cell_at hr he hi
          -- the common end: an element turned into z, the cells from o on written
          have fin : ∀ z : AV, z.cells.length = e → o + x.cells.length ≤ e → flat (xs.set i z) = (flat xs).take (i * e + o) ++ x.cells ++ (flat xs).drop (i * e + o + x.cells.length) →
              m' = m.set g (.arr t e c (xs.set i z)) → Outs P w S m (((do Instr.storeAt T (.pointer (some ⟨g, i * e + o, none⟩)) vx; pure .skip) : Sem Next).run P w) k := by
            rintro z hz hoe hfl rfl
            have hrun := run_storeAt (P := P) (o := i * e + o) hs hb (by simp; omega) h1
            have hst : Stays S w (w.setRow g (((vs ++ us).take (i * e + o)) ++ vx.cells.toList ++ (vs ++ us).drop (i * e + o + vx.cells.size)).toArray) := fun b' hb' => setRow_other w g b' _ (by rintro rfl; have := (hm.apart _ hb').1; rw [hg] at this; cases this)
            have e1 : ((vs ++ us).take (i * e + o)) ++ vx.cells.toList ++ (vs ++ us).drop (i * e + o + vx.cells.size) = (vs.take (i * e + o) ++ vx.cells.toList ++ vs.drop (i * e + o + vx.cells.size)) ++ us := by
              rw [List.take_append_of_le_length (by omega), List.drop_append_of_le_length (by omega)]
              simp
            obtain ⟨hm', hst⟩ := memRep_set hm (b := .arr t e c (xs.set i z)) hg (cs := (((vs ++ us).take (i * e + o)) ++ vx.cells.toList ++ (vs ++ us).drop (i * e + o + vx.cells.size)).toArray) ⟨vs.take (i * e + o) ++ vx.cells.toList ++ vs.drop (i * e + o + vx.cells.size), us, by rw [setRow_heap _ _ _ _ _ _ hb, e1], by
              rw [hfl, hlen]
              exact (((hr.take _).append hxc).append (hr.drop _)).mono hst (fun _ h => h), by
              rw [← hlv]; simp; omega, by
              intro q hq
              rcases List.mem_or_eq_of_mem_set hq with hq | rfl
              · exact he q hq
              · exact hz, by simpa using hle⟩
            refine ⟨.undef, undef, _, _, S, .inr ⟨run_u (by simpa using hrun), rfl⟩, hk, ⟨fun _ h => h, fun _ h => .inl h⟩, hst, hm', ⟨rfl, rfl, rfl, by simp, fun b hb hn => setRow_other _ _ _ _ (by rintro rfl; exact hn (by rw [hg]; simp))⟩, ?_, .undef _⟩
            intro g' b' hg'
            by_cases e : g' = g
            · subst e; exact .inl (by rw [hg]; simp)
            · rw [Mem.set_other e] at hg'; exact .inl (by rw [hg']; simp)
          split at h
          · rename_i hcond
            obtain ⟨rfl, hxe⟩ := hcond
            refine fin x hxe (by omega) ?_ (Option.some.inj h).symm
            rw [flat_set he hi hxe, hxe]; simp
          · split at h
            · rename_i cs
              split at h
              · rename_i hoe
                have hcs : cs.length = e := hye
                have hz : (AV.agg (cs.take o ++ x.cells ++ cs.drop (o + x.cells.length))).cells.length = e := by
                  show (cs.take o ++ x.cells ++ cs.drop (o + x.cells.length)).length = e
                  simp only [List.length_append, List.length_take, List.length_drop]; omega
                refine fin _ hz hoe ?_ (Option.some.inj h).symm
                rw [flat_set he hi hz]
                have hyy : xs[i] = .agg cs := by have := List.getElem?_eq_getElem hi; rw [this] at hy; exact Option.some.inj hy
                have hself := flat_set he hi hye
                have hxs : xs.set i (.agg cs) = xs := by rw [← hyy]; exact List.set_getElem_self hi
                rw [hxs] at hself
                have hfl := flat_len he
                have hrl := hr.length
                have hlt : ((flat xs).take (i * e)).length = i * e := by rw [List.length_take]; omega
                generalize hA : (flat xs).take (i * e) = A at *
                generalize hB : (flat xs).drop (i * e + e) = B at *
                have hself' : flat xs = A ++ (cs ++ B) := by rw [← List.append_assoc]; exact hself
                have q1 : (flat xs).take (i * e + o) = A ++ cs.take o := by
                  rw [hself', List.take_append, hlt, List.take_of_length_le (by omega), Nat.add_sub_cancel_left, List.take_append_of_le_length (by omega)]
                have q2 : (flat xs).drop (i * e + o + x.cells.length) = cs.drop (o + x.cells.length) ++ B := by
                  have h5 : i * e + o + x.cells.length = i * e + (o + x.cells.length) := by omega
                  rw [hself', h5, List.drop_append, hlt, List.drop_of_length_le (by omega), Nat.add_sub_cancel_left, List.drop_append_of_le_length (by omega), List.nil_append]
                rw [q1, q2]
                simp [AV.cells]
              · cases h
            · cases h
        · cases h
      · cases h
    · cases h
  | _ => cases h
end
end Go.T
