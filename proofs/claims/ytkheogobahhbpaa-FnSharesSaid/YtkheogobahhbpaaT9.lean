/- Appends. -/
import Derived.Test.YtkheogobahhbpaaT8
namespace Go.T
open Go
set_option linter.unusedSimpArgs false
set_option linter.unusedVariables false
section
variable {P : Program}

/-- What a slice holds lies in cells. -/
theorem srcA_cells {w : World} {S : Nat → Prop} {m : Mem} (hm : MemRep w S m) {n : Nat} (hn : n ≠ 0) {x : AV} {v : Value} (hx : Rep w S x v) {ys : List AV} (h : srcA m n x = some ys) :
    ∃ A c vs, v = .slice A ys.length c ∧ Reps w S (flat ys) vs ∧ vs.length = ys.length * n ∧ (∀ y ∈ ys, y.cells.length = n) ∧ (ys ≠ [] → ∃ b o, A = some ⟨b, o, none⟩ ∧ ∀ j u, vs[j]? = some u → w.cell? ⟨b, o + j, none⟩ = some u) := by
  have key : ∀ b (as : List AV) (o : Nat), Cells w S b o as → ∃ vs, Reps w S as vs ∧ ∀ j v, vs[j]? = some v → w.cell? ⟨b, o + j, none⟩ = some v := by
    intro g as
    induction as with
    | nil => intro o _; exact ⟨[], .nil, fun j v h => by simp at h⟩
    | cons a as ih =>
      intro o h
      cases h with
      | @cons _ _ _ v _ h1 h2 h3 =>
        obtain ⟨vs, r, hv⟩ := ih (o + 1) h3
        refine ⟨v :: vs, .cons h2 r, fun j u hu => ?_⟩
        cases j with
        | zero => simp at hu; subst hu; simpa using h1
        | succ j => have := hv j u (by simpa using hu); rw [← this]; congr 2; omega
  cases x with
  | lst f e xs =>
    simp only [srcA] at h
    have hys : ys = xs ∧ (e = n ∨ xs = []) := by
      split at h
      · rename_i he; obtain rfl := Option.some.inj h; exact ⟨rfl, .inl he⟩
      · split at h
        · rename_i hempty; obtain rfl := Option.some.inj h
          have : xs = [] := List.isEmpty_iff.1 hempty
          exact ⟨this.symm, .inr this⟩
        · cases h
    obtain ⟨rfl, hen⟩ := hys
    cases hx with
    | lnil f e A c hf => exact ⟨A, c, [], rfl, .nil, by simp, (fun _ h => by cases h), fun h => absurd rfl h⟩
    | lst f e b o c hb he hle hf hc =>
      obtain ⟨vs, hr, hv⟩ := key b _ o hc
      rcases hen with rfl | rfl
      · exact ⟨_, c, vs, rfl, hr, by rw [← hr.length, flat_len he], he, fun _ => ⟨b, o, rfl, hv⟩⟩
      · refine ⟨_, c, [], rfl, .nil, by simp, (fun _ h => by cases h), fun h => absurd rfl h⟩
  | own g l c =>
    simp only [srcA] at h
    split at h
    · rename_i T e c' xs hg
      split at h
      · rename_i hc
        obtain ⟨h1, rfl⟩ := hc
        obtain rfl := Option.some.inj h
        obtain ⟨vs, us, hb, hr, hl, he, hle⟩ := hm.blk _ _ hg
        cases hx
        refine ⟨_, c, vs, by rw [h1], hr, by rw [← hr.length, flat_len he], he, fun _ => ⟨g, 0, rfl, fun j u hu => ?_⟩⟩
        have : j < vs.length := (List.getElem?_eq_some_iff.1 hu).1
        simp [World.cell?, hb, List.getElem?_append_left this, hu]
      · cases h
    · cases h
  | _ => cases h
theorem firstCells_run {w : World} {n : Nat} {ys : List AV} {A : Option Addr} {c : Nat} {vs : List Value} (hl : vs.length = ys.length * n) (hc : ys ≠ [] → ∃ b o, A = some ⟨b, o, none⟩ ∧ ∀ j u, vs[j]? = some u → w.cell? ⟨b, o + j, none⟩ = some u) :
    (Builtin.firstCells n ys.length (.slice A ys.length c)).run P w = .ok vs.toArray w := by
  cases ys with
  | nil =>
    have : vs = [] := List.eq_nil_of_length_eq_zero (by simpa using hl)
    subst this
    cases A with
    | none => rfl
    | some a => simp [Builtin.firstCells, loadCells, loadCellsFrom]
  | cons y ys =>
    obtain ⟨b, o, rfl, hv⟩ := hc (by simp)
    exact run_ldCells _ vs hl hv
theorem growBy_le (newLen : Nat) : ∀ (r c B : Nat), newLen + newLen / 4 + 200 ≤ B → c ≤ B → Builtin.growBy newLen r c ≤ B
  | 0, c, B, _, hc => hc
  | r + 1, c, B, hB, hc => by
    unfold Builtin.growBy
    split
    · exact hc
    · exact growBy_le newLen r _ B hB (by omega)
theorem nextcap_le (need cap : Nat) (h : cap < need) : Builtin.nextslicecap need cap ≤ 2 * need + 1024 := by
  unfold Builtin.nextslicecap
  split
  · omega
  · split
    · omega
    · exact growBy_le need 4 cap _ (by omega) (by omega)
theorem zeroCells_size (z : Array Value) (n : Nat) : (Builtin.zeroCells z n).size = n * z.size := by simp [Builtin.zeroCells]
theorem int_not {U : TypeId} (hI : isIntT P U = some false) : ∃ d, P.underlying U = some d ∧ (d matches .int _) = false := by
  unfold isIntT at hI
  cases hd : P.underlying U with
  | none => rw [hd] at hI; cases hI
  | some d =>
    rw [hd] at hI
    refine ⟨d, rfl, ?_⟩
    clear hd
    cases d <;> first | rfl | (cases hI; done)
/-- The append that makes a new array. -/
theorem append_grow {w : World} {ts : Array TypeId} {ty T U E : TypeId} {n b : Nat} {zv : Value} (hT : ts[0]? = some T) (hU : ts[1]? = some U) (hI : isIntT P U = some false) (hE : P.underlying T = some (.slice E)) {i : TypeInfo} (hi : P.info? E = some i) (hn : i.size = n) (hb : i.bytes = b)
    (hz : ∀ w, (zeroValue E).run P w = .ok zv w) (hzs : zv.cells.size = n) {xs ys : List AV} {A A' : Option Addr} {c c' : Nat} {vx vy : List Value}
    (hx : ∀ w' : World, (∀ a, w'.cell? a = w.cell? a) → (Builtin.firstCells n xs.length (.slice A xs.length c)).run P w' = .ok vx.toArray w') (hy : ∀ w' : World, (∀ a, w'.cell? a = w.cell? a) → (Builtin.firstCells n ys.length (.slice A' ys.length c')).run P w' = .ok vy.toArray w')
    (hlim : (2 * (xs.length + ys.length) + 1024) * b ≤ 281474976710656) (hlt : c < xs.length + ys.length) (hbig : xs.length + ys.length ≤ 9223372036854775807) (hc : xs.length ≤ c) :
    ∃ nc w1 z, xs.length + ys.length ≤ nc ∧ w1 = { w with drawn := w.drawn + 1 } ∧ z.length = (nc - (xs.length + ys.length)) * n ∧
      (Builtin.append_ ts ty #[.slice A xs.length c, .slice A' ys.length c']).run P w = .ok (.slice (some ⟨w.heap.size, 0, none⟩) (xs.length + ys.length) nc) (addO w1 (.cells (vx ++ vy ++ z).toArray E)) := by
  obtain ⟨d, hd, hzeros⟩ := int_not hI
  have hs : szT P E = some n := by simp [szT, hi, hn]
  refine ⟨(Question.appendCap (xs.length + ys.length) c E).cut (w.tape w.drawn (Question.appendCap (xs.length + ys.length) c E)), { w with drawn := w.drawn + 1 },
    (Builtin.zeroCells zv.cells ((Question.appendCap (xs.length + ys.length) c E).cut (w.tape w.drawn (Question.appendCap (xs.length + ys.length) c E)) - (xs.length + ys.length))).toList, by simp [Question.cut], rfl, by simp [zeroCells_size, hzs], ?_⟩
  have g0 : ¬ (xs.length + ys.length ≤ c) := by omega
  have hnc := nextcap_le (xs.length + ys.length) c hlt
  have g2 : ¬ (Builtin.nextslicecap (xs.length + ys.length) c * i.bytes > 2 ^ 48) := by
    rw [hb]
    have h1 := Nat.mul_le_mul_right b hnc
    have h2 : (2 : Nat) ^ 48 = 281474976710656 := by decide
    omega
  have g1 : ∀ p : Prop, ¬ (((xs.length + ys.length : Nat) : Int) > IntKind.i64.max ∧ p) := by
    rintro p ⟨h, _⟩
    have h2 : IntKind.i64.max = 9223372036854775807 := by decide
    omega
  have hx1 := hx { w with drawn := w.drawn + 1 } (fun _ => rfl)
  have hy1 := hy { w with drawn := w.drawn + 1 } (fun _ => rfl)
  have hz1 := hz { w with drawn := w.drawn + 1 }
  unfold Builtin.append_
  cases d
  case int => cases hzeros
  all_goals
    simp only [hT, hU, List.getElem?_toArray, List.getElem?_cons_zero, List.getElem?_cons_succ, Sem.run_bind, run_under hE, Result.andThen_ok, run_szOf hs, run_under hd, Sem.run_pure, Bool.false_eq_true, if_false, Builtin.lenOf,
      if_neg g0, run_tinfo hi, Sem.run_ite, if_neg (g1 _), if_neg g2, run_choose, Question.forced, run_askRoom, hx1, hy1, hz1, newRow_run, Bool.not_false, if_true]
    simp
    congr 2
    apply Array.ext'
    simp
/-- The append that fits. -/
theorem append_fits {w : World} {ts : Array TypeId} {ty T U E : TypeId} {n : Nat} (hT : ts[0]? = some T) (hU : ts[1]? = some U) (hI : isIntT P U = some false) (hE : P.underlying T = some (.slice E)) (hs : szT P E = some n)
    {l : Nat} {ys : List AV} {A A' : Option Addr} {c c' : Nat} {vy : List Value} {w' : World} (hy : (Builtin.firstCells n ys.length (.slice A' ys.length c')).run P w = .ok vy.toArray w)
    (hst : (match A with | some a => storeCells (a.add (l * n)) vy | none => pure () : Sem Unit).run P w = .ok () w') (hle : l + ys.length ≤ c) :
    (Builtin.append_ ts ty #[.slice A l c, .slice A' ys.length c']).run P w = .ok (.slice A (l + ys.length) c) w' := by
  obtain ⟨d, hd, hzeros⟩ := int_not hI
  unfold Builtin.append_
  cases d
  case int => cases hzeros
  all_goals
    simp only [hT, hU, List.getElem?_toArray, List.getElem?_cons_zero, List.getElem?_cons_succ, Sem.run_bind, run_under hE, Result.andThen_ok, run_szOf hs, run_under hd, Sem.run_pure, Bool.false_eq_true, if_false, Builtin.lenOf,
      if_pos hle, Bool.not_false, if_true, hy]
    cases A with
    | none =>
      simp at hst
      subst hst
      rfl
    | some a =>
      simp only at hst
      simp only [Sem.run_bind, hst, Result.andThen_ok, Sem.run_pure]
theorem memRep_drew {w : World} {S : Nat → Prop} {m : Mem} (hm : MemRep w S m) (n : Nat) : MemRep { w with drawn := n } S m :=
  ⟨fun g b hg => BlkRep.mono (w := w) (fun _ _ => rfl) (fun _ h => h) rfl (hm.blk g b hg), fun b hb => hm.apart b hb⟩
theorem reps_append_flat {xs ys : List AV} : flat (xs ++ ys) = flat xs ++ flat ys := by simp [flat]
theorem appendW_sound {w : World} {S : Nat → Prop} {m : Mem} (hm : MemRep w S m) {ts : Array TypeId} {ty : TypeId} {s x : AV} {vs vx : Value} (hs : Rep w S s vs) (hx : Rep w S x vx) {k : AV → Mem → Prop} (h : appendW P m k ts s x) :
    Outs P w S m (((do pure (.value (← Builtin.append_ ts ty #[vs, vx]))) : Sem Next).run P w) k := by
  unfold appendW at h
  split at h
  · rename_i T U hT hU
    obtain ⟨hI, h⟩ := h
    split at h
    · rename_i E hE
      split at h
      · rename_i n b z hsz hby hz
        obtain ⟨hn0, hb0, hzl, h⟩ := h
        split at h
        · rename_i ys hys
          obtain ⟨i, hi, hin, hib⟩ := szT_bytes hsz hby
          have hzu : z ≠ .undef := (zeroE_some (w := w) (S := S) hz).1
          obtain ⟨zv, hzr, hzrep⟩ : ∃ zv, (∀ w, (zeroValue E).run P w = .ok zv w) ∧ Reps w S z.cells zv.cells.toList := by
            obtain ⟨v, hv, hr⟩ := (zeroE_some (w := w) (S := S) hz).2
            refine ⟨v, fun w' => ?_, hr.cells hzu⟩
            unfold zeroE zeroT at hz
            cases hi' : P.info? E with
            | none => rw [hi'] at hz; cases hz
            | some i' =>
              rw [hi'] at hz
              cases hq : i'.zero with
              | none => simp [hq] at hz
              | some q =>
                have h1 : ∀ w, (zeroValue E).run P w = .ok q w := fun w => by simp [zeroValue, run_tinfo hi', hq]
                have h2 := h1 w
                rw [hv] at h2
                obtain rfl : v = q := by injection h2
                exact h1 w'
          have hzs : zv.cells.size = n := by have := hzrep.length; simp at this; omega
          obtain ⟨A', c', vy, rfl, hry, hvyl, hey, hcy⟩ := srcA_cells hm hn0 hx hys
          have hyrun : ∀ w' : World, (∀ a, w'.cell? a = w.cell? a) → (Builtin.firstCells n ys.length (.slice A' ys.length c')).run P w' = .ok vy.toArray w' := fun w' hw' =>
            firstCells_run hvyl (fun hne => by obtain ⟨b, o, h1, h2⟩ := hcy hne; exact ⟨b, o, h1, fun j u hu => by rw [hw']; exact h2 j u hu⟩)
          -- the new array
          have grow : ∀ (xs : List AV) (A : Option Addr) (c : Nat) (vxs : List Value), Reps w S (flat xs) vxs → vxs.length = xs.length * n → (∀ y ∈ xs, y.cells.length = n) → (xs ≠ [] → ∃ b o, A = some ⟨b, o, none⟩ ∧ ∀ j u, vxs[j]? = some u → w.cell? ⟨b, o + j, none⟩ = some u) → xs.length ≤ c →
              (2 * (xs.length + ys.length) + 1024) * b ≤ 281474976710656 → c < xs.length + ys.length → xs.length + ys.length ≤ 9223372036854775807 →
              (∀ g nc, m g = none → xs.length + ys.length ≤ nc → k (.own g (xs.length + ys.length) nc) (m.set g (.arr E n nc (xs ++ ys)))) →
              Outs P w S m (((do pure (.value (← Builtin.append_ ts ty #[.slice A xs.length c, .slice A' ys.length c']))) : Sem Next).run P w) k := by
            intro xs A c vxs hrx hvl hex hcx hxc hlim hlt hbig hk
            have hxrun : ∀ w' : World, (∀ a, w'.cell? a = w.cell? a) → (Builtin.firstCells n xs.length (.slice A xs.length c)).run P w' = .ok vxs.toArray w' := fun w' hw' =>
              firstCells_run hvl (fun hne => by obtain ⟨b, o, h1, h2⟩ := hcx hne; exact ⟨b, o, h1, fun j u hu => by rw [hw']; exact h2 j u hu⟩)
            obtain ⟨nc, w1, zz, hnc, rfl, hzz, hrun⟩ := append_grow (P := P) (ty := ty) hT hU hI (elemT_some hE) hi hin hib hzr hzs hxrun hyrun hlim hlt hbig hxc
            have hm1 := memRep_drew hm (w.drawn + 1)
            have hst : Stays S w (addO { w with drawn := w.drawn + 1 } (.cells (vxs ++ vy ++ zz).toArray E)) := fun b hb => addO_old _ _ b (hm.apart b hb).2
            refine ⟨_, _, _, _, S, .inl (run_v hrun), hk w.heap.size nc (mem_fresh hm) hnc, ⟨fun _ h => h, fun _ h => .inl h⟩, hst, memRep_new hm1 _ ?_, (by have hk := keep_addO (fun g => m g ≠ none) { w with drawn := w.drawn + 1 } (.cells (vxs ++ vy ++ zz).toArray E); exact ⟨hk.os, hk.tape, hk.output, hk.size, hk.block⟩), ?_, .own _ _ _⟩
            · refine ⟨vxs ++ vy, zz, addO_new _ _, by rw [reps_append_flat]; exact (hrx.mono hst (fun _ h => h)).append (hry.mono hst (fun _ h => h)), ?_, ?_, by simpa using hnc⟩
              · simp only [List.length_append, hvl, hvyl, hzz]
                rw [← Nat.add_mul, ← Nat.add_mul]; congr 1; omega
              · intro y hy
                rcases List.mem_append.1 hy with hy | hy
                · exact hex y hy
                · exact hey y hy
            · intro g b hg
              by_cases h : g = w.heap.size
              · exact .inr (by omega)
              · rw [Mem.set_other h] at hg; exact .inl (by rw [hg]; simp)
          split at h
          · rename_i e xs
            obtain ⟨hen, hlim, hk0, hk1⟩ := h
            by_cases hy0 : ys = []
            · subst hy0
              have hv0 : vy = [] := List.eq_nil_of_length_eq_zero (by simpa using hvyl)
              subst hv0
              have same : ∀ A c, vs = .slice A xs.length c → xs.length ≤ c → Outs P w S m (((do pure (.value (← Builtin.append_ ts ty #[vs, .slice A' ([] : List AV).length c']))) : Sem Next).run P w) k := by
                rintro A c rfl hc
                have hrun := append_fits (P := P) (ty := ty) (w' := w) (A := A) (c := c) (l := xs.length) hT hU hI (elemT_some hE) hsz (hyrun w (fun _ => rfl)) (by cases A <;> rfl) (by simpa using hc)
                exact ⟨_, _, m, w, S, .inl (run_v hrun), hk0 rfl, ⟨fun _ h => h, fun _ h => .inl h⟩, fun _ _ => rfl, hm, Keep.refl _ _, fun g b hg => .inl (by rw [hg]; simp), by simpa using hs⟩
              cases hs with
              | lnil f e A c hf => exact same A c rfl (by simp)
              | lst f e b o c hb he hle hf hc => exact same _ c rfl hle
            · have hbig : xs.length + ys.length ≤ 9223372036854775807 := by
                have := Nat.mul_le_mul_left (2 * (xs.length + ys.length) + 1024) (Nat.pos_of_ne_zero hb0)
                omega
              have hypos : 0 < ys.length := List.length_pos_iff.2 hy0
              have hsrc : srcA m n (.lst true e xs) = some xs := by
                simp only [srcA]
                rcases hen with rfl | rfl
                · rw [if_pos rfl]
                · split <;> rfl
              obtain ⟨A, c, vxs, rfl, h1, h2, h3, h4⟩ := srcA_cells hm hn0 hs hsrc
              have hc : c = xs.length := by
                generalize hv : Value.slice A xs.length c = v at hs
                cases hs with
                | lnil f e A c hf => injection hv with _ _ h5; rw [h5, hf rfl]; rfl
                | lst f e b o c hb he hle hf hc => injection hv with _ _ h5; rw [h5, hf rfl]
              exact grow xs A c vxs h1 h2 h3 h4 (by omega) hlim (by omega) hbig (hk1 hy0)
          · rename_i g l c
            split at h
            · rename_i E' e c0 xs hg
              obtain ⟨rfl, rfl, rfl, rfl, hok, hlim, hk⟩ := h
              obtain ⟨vxs, us, hbk, hrx, hlv, hex, hxc⟩ := hm.blk _ _ hg
              have hvxl : vxs.length = xs.length * e := by rw [← hrx.length, flat_len hex]
              cases hs
              by_cases hfit : xs.length + ys.length ≤ c0
              · have hmul : (xs.length + ys.length) * e ≤ c0 * e := Nat.mul_le_mul_right e hfit
                rw [Nat.add_mul] at hmul
                have hlv' : vxs.length + us.length = c0 * e := by simpa using hlv
                have hvl2 : vy.length ≤ us.length := by omega
                have h1c : ∀ v ∈ vy, v.oneCell' = true := by
                  refine okCells_one hry ?_
                  rw [List.all_eq_true]
                  intro a ha
                  obtain ⟨y, hy, hay⟩ := List.mem_flatMap.1 ha
                  exact List.all_eq_true.1 (hok y hy) a hay
                have hstore := run_storeCells_at P g (xs.length * e) E' vy 0 _ w hbk (by simp; omega) h1c
                have e1 : (vxs ++ us).take (xs.length * e) ++ vy ++ (vxs ++ us).drop (xs.length * e + vy.length) = (vxs ++ vy) ++ us.drop vy.length := by
                  rw [List.take_append_of_le_length (by omega), List.take_of_length_le (by omega), List.drop_append, List.drop_of_length_le (by omega), hvxl, Nat.add_sub_cancel_left]
                  simp
                have hrun := append_fits (P := P) (ty := ty) (w' := w.setRow g ((vxs ++ vy) ++ us.drop vy.length).toArray) (A := some ⟨g, 0, none⟩) (c := c0) (l := xs.length) hT hU hI (elemT_some hE) hsz (hyrun w (fun _ => rfl)) (by
                  simp only [add_none, Nat.zero_add]
                  rw [← e1]; simpa using hstore) hfit
                obtain ⟨hm', hst⟩ := memRep_set hm (b := .arr E' e c0 (xs ++ ys)) hg (cs := ((vxs ++ vy) ++ us.drop vy.length).toArray) ⟨vxs ++ vy, us.drop vy.length, by rw [setRow_heap _ _ _ _ _ _ hbk], by
                  have hst : Stays S w (w.setRow g ((vxs ++ vy) ++ us.drop vy.length).toArray) := fun b' hb' => setRow_other w g b' _ (by rintro rfl; have := (hm.apart _ hb').1; rw [hg] at this; cases this)
                  rw [reps_append_flat]; exact (hrx.append hry).mono hst (fun _ h => h), by simp; omega, by
                  intro y hy
                  rcases List.mem_append.1 hy with hy | hy
                  · exact hex y hy
                  · exact hey y hy, by simpa using hfit⟩
                refine ⟨_, _, _, _, S, .inl (run_v hrun), hk g c0 (.inl rfl) hfit, ⟨fun _ h => h, fun _ h => .inl h⟩, hst, hm', ⟨rfl, rfl, rfl, by simp, fun b hb hn => setRow_other _ _ _ _ (by rintro rfl; exact hn (by rw [hg]; simp))⟩, ?_, .own _ _ _⟩
                intro g' b' hg'
                by_cases e : g' = g
                · subst e; exact .inl (by rw [hg]; simp)
                · rw [Mem.set_other e] at hg'; exact .inl (by rw [hg']; simp)
              · have hbig : xs.length + ys.length ≤ 9223372036854775807 := by
                  have := Nat.mul_le_mul_left (2 * (xs.length + ys.length) + 1024) (Nat.pos_of_ne_zero hb0)
                  omega
                refine grow xs (some ⟨g, 0, none⟩) c0 vxs hrx hvxl hex (fun _ => ⟨g, 0, rfl, fun j u hu => ?_⟩) hxc hlim (by omega) hbig (fun g' nc hg' hnc => hk g' nc (.inr hg') hnc)
                have : j < vxs.length := (List.getElem?_eq_some_iff.1 hu).1
                simp [World.cell?, hbk, List.getElem?_append_left this, hu]
            · exact h.elim
          · exact h.elim
        · exact h.elim
      · exact h.elim
    · exact h.elim
  · exact h.elim
end
end Go.T
