/- One operation; a list of operations; the orders that a region may be carried out in. -/
import Derived.Test.YtkheogobahhbpaaT9
namespace Go.T
open Go
set_option linter.unusedSimpArgs false
set_option linter.unusedVariables false
section
variable {P : Program}

/-- What one operation may come to. -/
def AOp (P : Program) (p : Bool) (o : Oper) (s : St) (K : St → Prop) : Prop :=
  match outR P s.mem s.eval o.op with
  | some v => K (s.put o.dst v)
  | none => WT P p s.mem s.eval (fun v m' => K ((s.put o.dst v).withMem m')) o.op

def NextOk (C : Ctx) (K : St → Prop) (N : Nat) (next : Act → World → Prop) : Prop := ∀ s a w, K s → Rel C s a w → a.tmps.size = N → next a w

theorem Outs.go {C : Ctx} {s : St} {a : Act} {w : World} {S : Nat → Prop} (h : Rel C s a w) (hS0 : SIn C S) (hslots : ∀ t, Rep w S (s.slots t) (a.tmps.getD t undef)) {o : Oper} (hd : ∀ t, o.dst = some t → t < a.tmps.size) {K : St → Prop}
    (hout : Outs P w S s.mem ((execOp a.eval o).run P w) (fun v m' => K ((s.put o.dst v).withMem m'))) {next : Act → World → Prop} {Q : Exit → Act → World → Prop} (hn : NextOk C K a.tmps.size next) : o.wp P a w next Q := by
  obtain ⟨v, u, m', w', S', hrun, hk, hSS, hst, hm', hkeep, hdom, hv⟩ := hout
  have hrel := h.step hS0 hslots hSS.1 (fun b hb => (hSS.2 b hb).imp id .inr) hst hm' hkeep hdom hd hv
  have hnext := hn _ _ _ hk hrel (put_size _ _ _)
  unfold Oper.wp
  rcases hrun with hrun | ⟨hrun, rfl⟩
  · rw [hrun]; exact hnext
  · rw [hrun]; exact hnext

theorem wt_sound {C : Ctx} {s : St} {a : Act} {w : World} (h : Rel C s a w) {p : Bool} {o : Oper} (hd : ∀ t, o.dst = some t → t < a.tmps.size) {K : St → Prop}
    (hk : WT P p s.mem s.eval (fun v m' => K ((s.put o.dst v).withMem m')) o.op) {next : Act → World → Prop} {Q : Exit → Act → World → Prop} (hn : NextOk C K a.tmps.size next) : o.wp P a w next Q := by
  obtain ⟨S, hS0, hm, hslots⟩ := h.ex
  have hev := eval_rep hslots
  cases hop : o.op with
  | alloc T =>
    rw [hop] at hk
    simp only [WT] at hk
    split at hk
    · rename_i z hz
      obtain ⟨hzu, zv, hzr, hzrep⟩ := zeroE_some (w := w) (S := S) hz
      refine Outs.go h hS0 hslots hd ?_ hn
      have hx : (Instr.alloc T true (.tuple #[])).run P w = .ok (.pointer (some ⟨w.heap.size, 0, none⟩)) (addO w (.cells zv.cells T)) := by
        unfold Instr.alloc
        rw [run_ok hzr]
        simp only [newVar, Sem.run_bind, newRow_run, Result.andThen_ok, Sem.run_pure]
      have := outs_box (k := fun v m' => K ((s.put o.dst v).withMem m')) hm hzrep hzu hk hx
      simpa [execOp, hop] using this
    · exact hk.elim
  | box T x =>
    rw [hop] at hk
    simp only [WT] at hk
    split at hk
    · exact hk.elim
    · rename_i hu
      refine Outs.go h hS0 hslots hd ?_ hn
      have hx : (Instr.box T (a.eval x)).run P w = .ok (.pointer (some ⟨w.heap.size, 0, none⟩)) (addO w (.cells (a.eval x).cells T)) := by
        simp only [Instr.box, newVar, Sem.run_bind, newRow_run, Result.andThen_ok, Sem.run_pure]
      have := outs_box (k := fun v m' => K ((s.put o.dst v).withMem m')) hm (hev x) hu hk hx
      simpa [execOp, hop] using this
  | store T ad x =>
    rw [hop] at hk
    simp only [WT] at hk
    split at hk
    · exact hk.elim
    · rename_i hu
      split at hk
      · rename_i n hn'
        obtain ⟨h1, h2, hk⟩ := hk
        split at hk
        · rename_i m' hm'
          refine Outs.go h hS0 hslots hd ?_ hn
          have := store_sound (P := P) (k := fun v m' => K ((s.put o.dst v).withMem m')) hm (hev ad) (hev x) hu (by rw [h1]; exact hn') h2 hm' hk
          simpa [execOp, hop] using this
        · exact hk.elim
      · exact hk.elim
  | buildSlice T len parts =>
    rw [hop] at hk
    simp only [WT] at hk
    split at hk
    · rename_i n hn'
      obtain ⟨rfl, hlim, hn0, hz, hk⟩ := hk
      obtain ⟨E, hu, hsE⟩ := esz_some hn'
      have hE : elemT P T = some E := by simp [elemT, hu]
      rw [hE] at hz
      obtain ⟨z, hz⟩ := Option.isSome_iff_exists.1 hz
      split at hk
      · rename_i xs hxs
        refine Outs.go h hS0 hslots hd ?_ hn
        have := buildSlice_sound (P := P) (k := fun v m' => K ((s.put o.dst v).withMem m')) hm hE hsE hev hxs hlim hn0 hz hk
        simpa [execOp, hop] using this
      · exact hk.elim
    · exact hk.elim
  | makeSlice T l c =>
    rw [hop] at hk
    simp only [WT] at hk
    split at hk
    · rename_i kn n kc n' hl hc
      split at hk
      · rename_i E hE
        split at hk
        · rename_i e b z h1 h2 h3
          obtain ⟨rfl, h0, hlim, he0, hze, hmax, hk⟩ := hk
          refine Outs.go h hS0 hslots hd ?_ hn
          have hvl := hev l; have hvc := hev c
          rw [hl] at hvl; rw [hc] at hvc
          generalize hql : a.eval l = ql at hvl
          generalize hqc : a.eval c = qc at hvc
          cases hvl; cases hvc
          have := makeSlice_sound (P := P) (k := fun v m' => K ((s.put o.dst v).withMem m')) (kn := kn) (kc := kc) hm hE h1 h2 h3 hze he0 h0 hlim hmax hk
          simpa [execOp, hop, hql, hqc] using this
        · exact hk.elim
      · exact hk.elim
    · exact hk.elim
  | call c =>
    rw [hop] at hk
    simp only [WT] at hk
    cases hcal : c.callee with
    | builtin b =>
      rw [hcal] at hk
      cases b with
      | append =>
        simp only at hk
        split at hk
        · rename_i x y hxy
          refine Outs.go h hS0 hslots hd ?_ hn
          have := appendW_sound (P := P) (ty := o.type) (k := fun v m' => K ((s.put o.dst v).withMem m')) hm (hev x) (hev y) hk
          have hargs : c.args.map a.eval = #[a.eval x, a.eval y] := by apply Array.ext'; simp [hxy]
          simpa [execOp, hop, resolve, hcal, invoke, builtin, hargs] using this
        · exact hk.elim
      | _ => exact hk.elim
    | value f =>
      rw [hcal] at hk
      simp only at hk
      split at hk
      · rename_i n caps hf
        have hvf := hev f
        rw [hf] at hvf
        generalize hqf : a.eval f = qf at hvf
        cases hvf with
        | func fn hcaps =>
          rename_i vcaps
          have hreps : Reps w S (c.args.toList.map s.eval ++ caps) (c.args.toList.map a.eval ++ vcaps) := (reps_map s.eval a.eval hev _).append hcaps
          have hW : WCall P n (c.args.toList.map s.eval ++ caps) s.mem (fun v m' => K ((s.put o.dst v).withMem m')) := by
            split at hk
            · obtain ⟨r, h1, h2⟩ := hk; exact h1.w h2
            · exact hk
          obtain ⟨⟨fn', hfn, hname, hbody⟩, hW⟩ := hW
          have hcall := hW w S _ hm hreps
          have hrun : (execOp a.eval o).run P w = .ok (.enter n (c.args.toList.map a.eval ++ vcaps).toArray) w := by
            have hargs : c.args.map a.eval ++ vcaps.toArray = (c.args.toList.map a.eval ++ vcaps).toArray := by apply Array.ext'; simp
            have hcf : ∀ args, (callFunc n args).run P w = .ok (.enter n args) w := by
              intro args
              simp only [callFunc, Sem.run_bind, run_program, Result.andThen_ok, hfn, hname, hbody, Bool.false_eq_true, if_false, Sem.run_pure]
            simp only [execOp, hop, resolve, hcal, hqf, Deferred.ofValue, pure_bind, invoke]
            rw [show (#[] ++ c.args.map a.eval ++ vcaps.toArray) = (c.args.toList.map a.eval ++ vcaps).toArray from by rw [Array.empty_append]; exact hargs]
            exact hcf _
          unfold Oper.wp
          rw [hrun]
          refine calls_mono hcall ?_
          rintro e w' ⟨v, r, m', S', rfl, hk', hSS, hup, hm', hv, hkeep, hdom⟩
          have hst : Stays S w w' := fun b hb => hkeep.block b (hm.apart b hb).2 (fun h => h (hm.apart b hb).1)
          exact hn _ _ _ hk' (h.step hS0 hslots hSS hup hst hm' hkeep hdom hd hv) (put_size _ _ _)
      · exact hk.elim
    | invoke r nm => rw [hcal] at hk; exact hk.elim
  | _ => rw [hop] at hk; exact hk.elim
end
end Go.T
