/- Lists of operations, guards, and the orders that a region may be carried out in. -/
import Derived.Test.YtkheogobahhbpaaT10
namespace Go.T
open Go
set_option linter.unusedSimpArgs false
set_option linter.unusedVariables false
section
variable {P : Program}

theorem aop_sound {C : Ctx} {s : St} {a : Act} {w : World} (h : Rel C s a w) {p : Bool} {o : Oper} (hd : ∀ t, o.dst = some t → t < a.tmps.size) {K : St → Prop}
    (hk : AOp P p o s K) {next : Act → World → Prop} {Q : Exit → Act → World → Prop} (hn : NextOk C K a.tmps.size next) : o.wp P a w next Q := by
  unfold AOp at hk
  split at hk
  · rename_i v hv
    obtain ⟨S, hS0, hm, hslots⟩ := h.ex
    obtain ⟨u, hrun, hr⟩ := outR_sound hm (eval_rep hslots) o hv
    refine Outs.go (P := P) h hS0 hslots hd ⟨v, u, s.mem, w, S, .inl hrun, ?_, ⟨fun _ h => h, fun _ h => .inl h⟩, fun _ _ => rfl, hm, Keep.refl _ _, fun g b hg => .inl (by rw [hg]; simp), hr⟩ hn
    have e : (s.put o.dst v).withMem s.mem = s.put o.dst v := by cases o.dst <;> rfl
    show K ((s.put o.dst v).withMem s.mem)
    rw [e]; exact hk
  · exact wt_sound h hd hk hn

/-- Is an operation carried out? (some true: yes; some false: no) -/
def wantedA (ops : Array Oper) (o : Oper) (s : St) : Option Bool :=
  match o.guard with
  | none => some true
  | some (j, want) => match (ops[j]?).bind (·.dst) with
    | some d => match s.slots d with
      | .bool b => some (b == want)
      | .tup [] => some false
      | _ => none
    | none => none
/-- Operations, one behind the other. -/
def AOps (P : Program) (p : Nat → Bool) (ops : Array Oper) (K : St → Prop) : List Nat → St → Prop
  | [], s => K s
  | i :: l, s => match ops[i]? with
    | none => AOps P p ops K l s
    | some o => match wantedA ops o s with
      | some true => AOp P (p i) o s (AOps P p ops K l)
      | some false => AOps P p ops K l (s.put o.dst (.tup []))
      | none => False

theorem wanted_sound {C : Ctx} {s : St} {a : Act} {w : World} (h : Rel C s a w) {ops : Array Oper} {o : Oper} (hb : ∀ (j : Nat) (d : Tmp), (ops[j]?).bind (·.dst) = some d → d < a.tmps.size) {b : Bool} (hw : wantedA ops o s = some b) : Region.wanted o (yielded ops a.tmps) = b := by
  obtain ⟨S, hS0, hm, hslots⟩ := h.ex
  unfold wantedA at hw
  unfold Region.wanted
  split at hw
  · rename_i hg
    rw [hg]; obtain rfl := Option.some.inj hw; rfl
  · rename_i j want hg
    rw [hg]
    simp only
    split at hw
    · rename_i d hdd
      have hlt := hb j d hdd
      have hs := hslots d
      have hget : a.tmps[d]? = some (a.tmps.getD d undef) := by simp [Array.getD, hlt]
      have hy : yielded ops a.tmps j = (match (some (a.tmps.getD d undef) : Option Value) with | some (.bool b) => some b | _ => none) := by
        unfold yielded
        rw [hdd]
        simp only [Option.bind_some, hget]
        rfl
      rw [hy]
      split at hw
      · rename_i b' hsl
        rw [hsl] at hs
        generalize a.tmps.getD d undef = q at hs
        cases hs
        obtain rfl := Option.some.inj hw
        cases b' <;> cases want <;> rfl
      · rename_i hsl
        rw [hsl] at hs
        generalize a.tmps.getD d undef = q at hs
        cases hs with
        | tup hr =>
          cases hr
          obtain rfl := Option.some.inj hw
          rfl
      · cases hw
    · cases hw

theorem aops_sound {C : Ctx} {ops : Array Oper} {N : Nat} (hb : ∀ (j : Nat) (d : Tmp), (ops[j]?).bind (·.dst) = some d → d < N) {p : Nat → Bool} {K : St → Prop} {Q : Exit → Act → World → Prop} (hQ : NextOk C K N (Q .normal)) :
    ∀ (l : List Nat) (s : St) (a : Act) (w : World), Rel C s a w → a.tmps.size = N → AOps P p ops K l s → wpOps P ops Q l a w
  | [], s, a, w, h, hN, hk => hQ s a w hk h hN
  | i :: l, s, a, w, h, hN, hk => by
    simp only [AOps] at hk
    simp only [wpOps]
    cases ho : ops[i]? with
    | none =>
      rw [ho] at hk
      exact aops_sound hb hQ l s a w h hN hk
    | some o =>
      rw [ho] at hk
      simp only at hk ⊢
      have hd : ∀ t, o.dst = some t → t < a.tmps.size := fun t ht => by rw [hN]; exact hb i t (by rw [ho]; exact ht)
      split at hk
      · rename_i hw
        rw [wanted_sound h (by rw [hN]; exact hb) hw, if_pos rfl]
        refine .inl (aop_sound h hd hk ?_)
        intro s' a' w' hk' h' hN'
        exact aops_sound hb hQ l s' a' w' h' (by omega) hk'
      · rename_i hw
        rw [wanted_sound h (by rw [hN]; exact hb) hw, if_neg (by decide)]
        refine aops_sound hb hQ l _ _ _ ?_ (by rw [put_size]; exact hN) hk
        obtain ⟨S, hS0, hm, hslots⟩ := h.ex
        have hu : Rep w S (.tup []) undef := Rep.tup .nil
        have e : (s.put o.dst (.tup [])).withMem s.mem = s.put o.dst (.tup []) := by cases o.dst <;> rfl
        rw [← e]
        exact h.step hS0 hslots (fun _ h => h) (fun _ h => .inl h) (fun _ _ => rfl) hm (Keep.refl _ _) (fun g b hg => .inl (by rw [hg]; simp)) hd hu
      · exact hk.elim
end
end Go.T
