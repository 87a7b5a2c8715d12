/- Parts of the proof of FnParsed: Trees of the program's values, in plain Lean. -/
import Derived.Test.YtdbnllfjmkmdiaaGreatDoorG2
set_option linter.unusedSimpArgs false
set_option linter.unusedVariables false
namespace Go.T
open Go
inductive Ex where
 | mk (k n : Int) (s : ByteArray) (l : List Ex)
mutual
def Ex.cells : Ex -> List AV
 | .mk k n s l => [.int .i64 k, .int .i64 n, .str s, .lst false 4 (Ex.avs l)]
def Ex.avs : List Ex -> List AV
 | [] => []
 | e :: l => .agg e.cells :: Ex.avs l
end
def Ex.av (e : Ex) : AV := .agg e.cells
theorem Ex.avs_map : ∀ l, Ex.avs l = l.map Ex.av
 | [] => rfl
 | e :: l => by rw [Ex.avs, Ex.avs_map l]; rfl
theorem Ex.cells_mk (k n : Int) (s : ByteArray) (l : List Ex) : (Ex.mk k n s l).cells = [.int .i64 k, .int .i64 n, .str s, .lst false 4 (l.map Ex.av)] := by rw [Ex.cells, Ex.avs_map]
@[simp] theorem Ex.cells_len (e : Ex) : e.cells.length = 4 := by cases e; rw [Ex.cells_mk]; rfl
@[simp] theorem Ex.takek (e : Ex) (r : List AV) (k : Nat) : List.take (k + 4) (e.cells ++ r) = e.cells ++ List.take k r := by rw [List.take_append, e.cells_len, List.take_of_length_le (by rw [e.cells_len]; omega)]; simp
@[simp] theorem Ex.take0 (e : Ex) : List.take 4 e.cells = e.cells := List.take_of_length_le (by rw [e.cells_len]; exact Nat.le_refl _)
@[simp] theorem Ex.drop (e : Ex) (r : List AV) (k : Nat) : List.drop (k + 4) (e.cells ++ r) = List.drop k r := by rw [List.drop_append, e.cells_len, List.drop_eq_nil_of_le (by rw [e.cells_len]; omega)]; simp
@[simp] theorem Ex.cells_ok (e : Ex) : e.cells.all zya = true := by cases e; rw [Ex.cells_mk]; rfl
mutual
theorem Ex.ind {M : Ex -> Prop} (h : ∀ k n s l, (∀ x ∈ l, M x) -> M (.mk k n s l)) : ∀ e, M e
 | .mk k n s l => h k n s l (Ex.inds h l)
theorem Ex.inds {M : Ex -> Prop} (h : ∀ k n s l, (∀ x ∈ l, M x) -> M (.mk k n s l)) : ∀ l : List Ex, ∀ x ∈ l, M x
 | [], x, hx => by cases hx
 | e :: l, x, hx => by
  have h1 := Ex.ind h e;have h2 := Ex.inds h l;rcases List.mem_cons.1 hx with rfl | hx
  ·exact h1
  exact h2 x hx
end
def zAa {X : Type} (f : X -> Nat) : List X -> Nat
 | [] => 0
 | x :: l => 1 + f x + zAa f l
mutual
def Ex.tot : Ex -> Nat
 | .mk _ _ s l => s.size + Ex.tots l
def Ex.tots : List Ex -> Nat
 | [] => 0
 | e :: l => 1 + e.tot + Ex.tots l
end
theorem Ex.tots_eq : ∀ l, Ex.tots l = zAa Ex.tot l
 | [] => rfl
 | e :: l => by rw [Ex.tots, Ex.tots_eq l, zAa]
theorem Ex.tot_mk (k n : Int) (s : ByteArray) (l : List Ex) : (Ex.mk k n s l).tot = s.size + zAa Ex.tot l := by rw [Ex.tot, Ex.tots_eq]
def most : Nat := 9223372036854775807
inductive Sm where
 | mk (k : Int) (s : ByteArray) (a e lo hi : Ex) (body : List Sm)
mutual
def Sm.cells : Sm -> List AV
 | .mk k s a e lo hi b => .int .i64 k :: .str s :: (a.cells ++ (e.cells ++ (lo.cells ++ (hi.cells ++ [.lst false 19 (Sm.avs b)]))))
def Sm.avs : List Sm -> List AV
 | [] => []
 | e :: l => .agg e.cells :: Sm.avs l
end
def Sm.av (e : Sm) : AV := .agg e.cells
theorem Sm.avs_map : ∀ l, Sm.avs l = l.map Sm.av
 | [] => rfl
 | e :: l => by rw [Sm.avs, Sm.avs_map l]; rfl
theorem Sm.cells_mk (k : Int) (s : ByteArray) (a e lo hi : Ex) (b : List Sm) : (Sm.mk k s a e lo hi b).cells = .int .i64 k :: .str s :: (a.cells ++ (e.cells ++ (lo.cells ++ (hi.cells ++ [.lst false 19 (b.map Sm.av)])))) := by rw [Sm.cells, Sm.avs_map]
@[simp] theorem Sm.cells_len (e : Sm) : e.cells.length = 19 := by cases e; rw [Sm.cells_mk]; simp [Ex.cells_len]
@[simp] theorem Sm.take0 (e : Sm) : List.take 19 e.cells = e.cells := List.take_of_length_le (by rw [e.cells_len]; exact Nat.le_refl _)
@[simp] theorem Sm.cells_ok (e : Sm) : e.cells.all zya = true := by cases e; rw [Sm.cells_mk]; simp only [List.all_cons, List.all_append, Ex.cells_ok]; rfl
mutual
theorem Sm.ind {M : Sm -> Prop} (h : ∀ k s a e lo hi b, (∀ x ∈ b, M x) -> M (.mk k s a e lo hi b)) : ∀ e, M e
 | .mk k s a e lo hi b => h k s a e lo hi b (Sm.inds h b)
theorem Sm.inds {M : Sm -> Prop} (h : ∀ k s a e lo hi b, (∀ x ∈ b, M x) -> M (.mk k s a e lo hi b)) : ∀ l : List Sm, ∀ x ∈ l, M x
 | [], x, hx => by cases hx
 | e :: l, x, hx => by
  have h1 := Sm.ind h e;have h2 := Sm.inds h l;rcases List.mem_cons.1 hx with rfl | hx
  ·exact h1
  exact h2 x hx
end
mutual
def Sm.tot : Sm -> Nat
 | .mk _ s a e lo hi b => s.size + (a.tot + (e.tot + (lo.tot + (hi.tot + Sm.tots b))))
def Sm.tots : List Sm -> Nat
 | [] => 0
 | e :: l => 1 + e.tot + Sm.tots l
end
theorem Sm.tots_eq : ∀ l, Sm.tots l = zAa Sm.tot l
 | [] => rfl
 | e :: l => by rw [Sm.tots, Sm.tots_eq l, zAa]
theorem Sm.tot_mk (k : Int) (s : ByteArray) (a e lo hi : Ex) (b : List Sm) : (Sm.mk k s a e lo hi b).tot = s.size + (a.tot + (e.tot + (lo.tot + (hi.tot + zAa Sm.tot b)))) := by rw [Sm.tot, Sm.tots_eq]
structure Ar where
 s : ByteArray
 n : Int
def Ar.cells (a : Ar) : List AV := [.str a.s, .int .i64 a.n]
def Ar.av (a : Ar) : AV := .agg a.cells
def Ar.tot (a : Ar) : Nat := a.s.size
@[simp] theorem Ar.cells_len (e : Ar) : e.cells.length = 2 := rfl
@[simp] theorem Ar.take0 (e : Ar) : List.take 2 e.cells = e.cells := rfl
@[simp] theorem Ar.cells_ok (e : Ar) : e.cells.all zya = true := rfl
structure Pg where
 arrs : List Ar
 body : List Sm
def Pg.cells (p : Pg) : List AV := [.lst false 2 (p.arrs.map Ar.av), .lst false 19 (p.body.map Sm.av)]
def Pg.av (p : Pg) : AV := .agg p.cells
def Pg.tot (p : Pg) : Nat := zAa Ar.tot p.arrs + zAa Sm.tot p.body
@[simp] theorem Pg.cells_len (e : Pg) : e.cells.length = 2 := rfl
@[simp] theorem Pg.take0 (e : Pg) : List.take 2 e.cells = e.cells := rfl
@[simp] theorem Pg.cells_ok (e : Pg) : e.cells.all zya = true := rfl
theorem zua {X : Type} (f : X -> Nat) : ∀ l, l.length <= zAa f l
 | [] => Nat.zero_le _
 | x :: l => by have := zua f l; simp only [zAa, List.length_cons]; omega
theorem zoa {X : Type} (f : X -> Nat) : ∀ {l} {x}, x ∈ l -> f x < zAa f l
 | y :: l, x, h => by
  simp only [zAa];rcases List.mem_cons.1 h with rfl | h
  ·omega
  have := zoa f h; omega
def zYa {X : Type} (f : X -> Nat) : List X -> Nat
 | [] => 0
 | x :: l => f x + zYa f l
def noS (s : ByteArray) : Bool := decide (s = ⟨#[]⟩)
def zSa (k n : Int) (s : ByteArray) (len : Int) : Bool :=
 if k = 1 then inR n 0 999999 && noS s && decide (len = 0)
 else if k = 2 then zxa s && decide (n = 0) && decide (len = 0)
 else if k = 3 then zxa s && decide (n = 0) && decide (len = 1)
 else inR k 4 8 && decide (n = 0) && noS s && decide (len = 2)
def yIa (k : Int) : Int := if k = 1 then 0 else if k = 2 then 0 else if k = 3 then 1 else if inR k 4 8 then 2 else -1
mutual
def Ex.good : Ex -> Nat -> Bool
 | .mk k n s l, d => decide (d <= 8) && zSa k n s l.length && Ex.goods l (d + 1)
def Ex.goods : List Ex -> Nat -> Bool
 | [], _ => true
 | e :: l, d => e.good d && Ex.goods l d
end
mutual
def Ex.nodes : Ex -> Nat
 | .mk _ _ _ l => 1 + Ex.nodess l
def Ex.nodess : List Ex -> Nat
 | [] => 0
 | e :: l => e.nodes + Ex.nodess l
end
theorem Ex.nodess_eq : ∀ l, Ex.nodess l = zYa Ex.nodes l
 | [] => rfl
 | e :: l => by rw [Ex.nodess, Ex.nodess_eq l, zYa]
theorem wka {X : Type} (f g : X -> Nat) : ∀ l : List X, (∀ x ∈ l, f x <= 1 + g x) -> zYa f l <= zAa g l
 | [], _ => Nat.le_refl _
 | x :: l, h => by
  have h1 := h x (List.mem_cons_self ..);have h2 := wka f g l (fun y hy => h y (List.mem_cons_of_mem _ hy));simp only [zYa, zAa]; omega
theorem Ex.nodes_le (e : Ex) : e.nodes <= 1 + e.tot := by
 induction e using Ex.ind with | h k n s l h =>
 rw [Ex.tot_mk, Ex.nodes, Ex.nodess_eq];have := wka Ex.nodes Ex.tot l h;omega
def Ex.msr (e : Ex) (d : Nat) : Int := if e.good d then e.nodes else -1
def Ex.msrs (l : List Ex) (d : Nat) (q : Int) : Int := if Ex.goods l d then q + zYa Ex.nodes l else -1
theorem Ex.msrs_cons (e : Ex) (l : List Ex) (d : Nat) (q : Int) : Ex.msrs (e :: l) d q = if e.msr d < 0 then -1 else Ex.msrs l d (q + e.msr d) := by
 simp only [Ex.msrs, Ex.msr, Ex.goods, zYa];by_cases h1 : e.good d = true <;> by_cases h2 : Ex.goods l d = true <;> simp [h1, h2] <;> omega
theorem Ex.msr_mk (k n : Int) (s : ByteArray) (l : List Ex) (d : Nat) : (Ex.mk k n s l).msr d = if d <= 8 /\ zSa k n s l.length = true then Ex.msrs l (d + 1) 1 else -1 := by
 simp only [Ex.msr, Ex.msrs, Ex.good, Ex.nodes, Ex.nodess_eq];by_cases h : d <= 8 <;> by_cases h1 : zSa k n s l.length = true <;> by_cases h2 : Ex.goods l (d + 1) = true <;> simp [h, h1, h2]
def Ex.ok (e : Ex) : Bool := e.good 1 && decide (e.nodes <= 60)
mutual
def Ex.cnt : Ex -> Nat -> Int
 | .mk k n s l, d => if d <= 8 /\ zSa k n s l.length = true then Ex.cnts l (d + 1) 1 else 100
def Ex.cnts : List Ex -> Nat -> Int -> Int
 | [], _, n => n
 | e :: l, d, n => if n <= 60 then Ex.cnts l d (n + e.cnt d) else n
end
theorem Ex.cnts_ge (l : List Ex) (h : ∀ x ∈ l, ∀ d, 0 <= x.cnt d) : ∀ d n, n <= Ex.cnts l d n := by
 induction l with
 | nil => intro d n; rw [Ex.cnts]; exact Int.le_refl _
 | cons e l ih =>
  intro d n;rw [Ex.cnts];have h1 := h e (List.mem_cons_self ..) d;have h2 := ih (fun x hx => h x (List.mem_cons_of_mem _ hx)) d (n + e.cnt d);split <;> omega
theorem Ex.cnt_pos (e : Ex) : ∀ d, 0 <= e.cnt d := by
 induction e using Ex.ind with | h k n s l h =>
 intro d;rw [Ex.cnt];have := Ex.cnts_ge l h (d + 1) 1;split <;> omega
theorem Ex.cnts_le (l : List Ex) (h : ∀ x ∈ l, ∀ d, x.cnt d <= 100 * x.nodes) : ∀ d n, Ex.cnts l d n <= n + 100 * zYa Ex.nodes l := by
 induction l with
 | nil => intro d n; rw [Ex.cnts]; simp [zYa]
 | cons e l ih =>
  intro d n;rw [Ex.cnts, zYa];have h1 := h e (List.mem_cons_self ..) d;have h2 := ih (fun x hx => h x (List.mem_cons_of_mem _ hx)) d (n + e.cnt d);split <;> omega
theorem Ex.cnt_le (e : Ex) : ∀ d, e.cnt d <= 100 * e.nodes := by
 induction e using Ex.ind with | h k n s l h =>
 intro d;rw [Ex.cnt, Ex.nodes, Ex.nodess_eq];have := Ex.cnts_le l h (d + 1) 1;split <;> omega
def Ex.Cnt (e : Ex) : Prop := ∀ d, (e.good d = true -> (e.cnt d = e.nodes ∨ (60 < e.cnt d /\ 60 < e.nodes))) /\ (e.good d = false -> 60 < e.cnt d)
theorem Ex.cnts_ok (l : List Ex) (h : ∀ x ∈ l, x.Cnt) : ∀ d (n : Int), 0 <= n -> (Ex.goods l d = true -> (Ex.cnts l d n = n + zYa Ex.nodes l ∨ (60 < Ex.cnts l d n /\ 60 < n + zYa Ex.nodes l))) /\ (Ex.goods l d = false -> 60 < Ex.cnts l d n) := by
 induction l with
 | nil => intro d n hn; simp [Ex.cnts, Ex.goods, zYa]
 | cons e l ih =>
  intro d n hn;have h1 := h e (List.mem_cons_self ..) d;have hp := e.cnt_pos d;have h2 := ih (fun x hx => h x (List.mem_cons_of_mem _ hx)) d (n + e.cnt d) (by omega);have h3 := Ex.cnts_ge l (fun x _ => x.cnt_pos) d (n + e.cnt d);rw [Ex.cnts, Ex.goods, zYa];by_cases hn60 : n <= 60
  ·rw [if_pos hn60];by_cases g1 : e.good d = true <;> by_cases g2 : Ex.goods l d = true <;> simp [g1, g2] at h1 h2 ⊢ <;> omega
  rw [if_neg hn60];by_cases g1 : e.good d = true <;> by_cases g2 : Ex.goods l d = true <;> simp [g1, g2] at h1 h2 ⊢ <;> omega
theorem Ex.cnt_ok (e : Ex) : e.Cnt := by
 induction e using Ex.ind with | h k n s l h =>
 intro d;have h1 := Ex.cnts_ok l h (d + 1) 1 (by omega);rw [Ex.cnt, Ex.good, Ex.nodes, Ex.nodess_eq];by_cases a : d <= 8 <;> by_cases b : zSa k n s l.length = true <;> by_cases c : Ex.goods l (d + 1) = true <;> simp [a, b, c] at h1 ⊢ <;> omega
theorem Ex.ok_cnt (e : Ex) : e.ok = decide (e.cnt 1 <= 60) := by
 have h := e.cnt_ok 1;unfold Ex.ok;by_cases g : e.good 1 = true <;> simp [g] at h ⊢
 ·omega
 omega
def Ex.no : Ex -> Bool
 | .mk k n s l => decide (k = 0) && decide (n = 0) && noS s && decide ((l.length : Int) = 0)
def zta (k : Int) (s : ByteArray) (a e lo hi : Ex) (len : Int) (d : Nat) : Bool :=
 if k = 1 then a.no && e.ok && lo.no && hi.no && zxa s && decide (len = 0)
 else if k = 2 then a.ok && e.ok && lo.no && hi.no && zxa s && decide (len = 0)
 else if k = 3 then a.no && e.no && lo.ok && hi.ok && zxa s && decide (d < 3) && inR len 1 6
 else if k = 4 then a.no && e.ok && lo.no && hi.no && noS s && decide (len = 0)
 else false
mutual
def Sm.right : Sm -> Nat -> Bool
 | .mk k s a e lo hi b, d => zta k s a e lo hi b.length d && (decide (k ≠ 3) || Sm.rights b (d + 1))
def Sm.rights : List Sm -> Nat -> Bool
 | [], _ => true
 | x :: l, d => x.right d && Sm.rights l d
end
mutual
def Sm.size : Sm -> Nat
 | .mk _ _ _ _ _ _ b => 1 + Sm.sizes b
def Sm.sizes : List Sm -> Nat
 | [] => 0
 | x :: l => x.size + Sm.sizes l
end
mutual
def Sm.cnt : Sm -> Nat -> Int
 | .mk k s a e lo hi b, d => if zta k s a e lo hi b.length d = true then (if k = 3 then Sm.cnts b (d + 1) 1 else 1) else 100
def Sm.cnts : List Sm -> Nat -> Int -> Int
 | [], _, n => n
 | x :: l, d, n => if n <= 40 then Sm.cnts l d (n + x.cnt d) else n
end
theorem Sm.sizes_eq : ∀ l, Sm.sizes l = zYa Sm.size l
 | [] => rfl
 | e :: l => by rw [Sm.sizes, Sm.sizes_eq l, zYa]
theorem Sm.cnts_ge (l : List Sm) (h : ∀ x ∈ l, ∀ d, 0 <= x.cnt d) : ∀ d n, n <= Sm.cnts l d n := by
 induction l with
 | nil => intro d n; rw [Sm.cnts]; exact Int.le_refl _
 | cons e l ih =>
  intro d n;rw [Sm.cnts];have h1 := h e (List.mem_cons_self ..) d;have h2 := ih (fun x hx => h x (List.mem_cons_of_mem _ hx)) d (n + e.cnt d);split <;> omega
theorem Sm.cnt_pos (e : Sm) : ∀ d, 0 <= e.cnt d := by
 induction e using Sm.ind with | h k s a e lo hi b h =>
 intro d;rw [Sm.cnt];have := Sm.cnts_ge b h (d + 1) 1;split <;> (try split) <;> omega
theorem Sm.cnts_le (l : List Sm) (h : ∀ x ∈ l, ∀ d, x.cnt d <= 100 * x.size) : ∀ d n, Sm.cnts l d n <= n + 100 * zYa Sm.size l := by
 induction l with
 | nil => intro d n; rw [Sm.cnts]; simp [zYa]
 | cons e l ih =>
  intro d n;rw [Sm.cnts, zYa];have h1 := h e (List.mem_cons_self ..) d;have h2 := ih (fun x hx => h x (List.mem_cons_of_mem _ hx)) d (n + e.cnt d);split <;> omega
theorem Sm.cnt_le (e : Sm) : ∀ d, e.cnt d <= 100 * e.size := by
 induction e using Sm.ind with | h k s a e lo hi b h =>
 intro d;rw [Sm.cnt, Sm.size, Sm.sizes_eq];have := Sm.cnts_le b h (d + 1) 1;split <;> (try split) <;> omega
theorem Sm.size_le (e : Sm) : e.size <= 1 + e.tot := by
 induction e using Sm.ind with | h k s a e lo hi b h =>
 rw [Sm.tot_mk, Sm.size, Sm.sizes_eq];have := wka Sm.size Sm.tot b h;omega
def Sm.Cnt (e : Sm) : Prop := ∀ d, (e.right d = true -> (e.cnt d = e.size ∨ (40 < e.cnt d /\ 40 < e.size))) /\ (e.right d = false -> 40 < e.cnt d)
theorem Sm.cnts_ok (l : List Sm) (h : ∀ x ∈ l, x.Cnt) : ∀ d (n : Int), 0 <= n -> (Sm.rights l d = true -> (Sm.cnts l d n = n + zYa Sm.size l ∨ (40 < Sm.cnts l d n /\ 40 < n + zYa Sm.size l))) /\ (Sm.rights l d = false -> 40 < Sm.cnts l d n) := by
 induction l with
 | nil => intro d n hn; simp [Sm.cnts, Sm.rights, zYa]
 | cons e l ih =>
  intro d n hn;have h1 := h e (List.mem_cons_self ..) d;have hp := e.cnt_pos d;have h2 := ih (fun x hx => h x (List.mem_cons_of_mem _ hx)) d (n + e.cnt d) (by omega);have h3 := Sm.cnts_ge l (fun x _ => x.cnt_pos) d (n + e.cnt d);rw [Sm.cnts, Sm.rights, zYa];by_cases hn60 : n <= 40
  ·rw [if_pos hn60];by_cases g1 : e.right d = true <;> by_cases g2 : Sm.rights l d = true <;> simp [g1, g2] at h1 h2 ⊢ <;> omega
  rw [if_neg hn60];by_cases g1 : e.right d = true <;> by_cases g2 : Sm.rights l d = true <;> simp [g1, g2] at h1 h2 ⊢ <;> omega
theorem Sm.cnt_ok (e : Sm) : e.Cnt := by
 induction e using Sm.ind with | h k s a e lo hi b h =>
 intro d;have h1 := Sm.cnts_ok b h (d + 1) 1 (by omega);rw [Sm.cnt, Sm.right, Sm.size, Sm.sizes_eq];by_cases x : zta k s a e lo hi b.length d = true
 ·by_cases k3 : k = 3
  ·rw [if_pos x, x];by_cases c : Sm.rights b (d + 1) = true <;> simp [k3, c] at h1 ⊢ <;> omega
  have hb : b = [] := by
   unfold zta at x;rw [if_neg k3] at x;have : (b.length : Int) = 0 := by
    split at x
    ·simp at x; simp [x]
    split at x
    ·simp at x; simp [x]
    split at x
    ·simp at x; simp [x]
    cases x
   exact List.eq_nil_of_length_eq_zero (by omega)
  rw [if_pos x, x];simp [k3, hb, zYa]
 simp [x]
def Sm.ok (e : Sm) : Bool := e.right 0 && decide (e.size <= 40)
theorem Sm.ok_cnt (e : Sm) : e.ok = decide (e.cnt 0 <= 40) := by
 have h := e.cnt_ok 0;unfold Sm.ok;by_cases g : e.right 0 = true <;> simp [g] at h ⊢ <;> omega
theorem zDc : ∀ x, Op.bytesLess x x = false
 | [] => rfl
 | a :: x => by simp [Op.bytesLess, zDc x]
theorem yze {a b : UInt8} (h1 : ¬ a < b) (h2 : a ≠ b) : b < a := by
 rw [UInt8.lt_iff_toNat_lt] at *;have : a.toNat ≠ b.toNat := fun h => h2 (UInt8.toNat_inj.1 h);omega
theorem xEd {a b c : UInt8} (h1 : a < b) (h2 : b < c) : a < c := by
 rw [UInt8.lt_iff_toNat_lt] at *;omega
theorem xFc : ∀ x y z, Op.bytesLess x y = true -> Op.bytesLess y z = true -> Op.bytesLess x z = true
 | _, [], [], h, k => by simp [Op.bytesLess] at k
 | [], _ :: _, [], h, k => by simp [Op.bytesLess] at k
 | _ :: _, _ :: _, [], h, k => by simp [Op.bytesLess] at k
 | [], _, _ :: _, h, k => by simp [Op.bytesLess]
 | _ :: _, [], _ :: _, h, k => by simp [Op.bytesLess] at h
 | a :: x, b :: y, c :: z, h, k => by
  simp only [Op.bytesLess, Bool.or_eq_true, decide_eq_true_eq, Bool.and_eq_true, beq_iff_eq] at h k ⊢;rcases h with h | ⟨rfl, h⟩
  ·rcases k with k | ⟨rfl, k⟩
   ·exact .inl (xEd h k)
   exact .inl h
  rcases k with k | ⟨rfl, k⟩
  ·exact .inl k
  exact .inr ⟨rfl, xFc x y z h k⟩
theorem wud : ∀ x y, x ≠ y -> Op.bytesLess x y = false -> Op.bytesLess y x = true
 | [], [], h, _ => absurd rfl h
 | [], _ :: _, _, k => by simp [Op.bytesLess] at k
 | _ :: _, [], _, _ => by simp [Op.bytesLess]
 | a :: x, b :: y, h, k => by
  simp only [Op.bytesLess, Bool.or_eq_false_iff, decide_eq_false_iff_not, Bool.and_eq_false_imp, beq_iff_eq] at k;simp only [Op.bytesLess, Bool.or_eq_true, decide_eq_true_eq, Bool.and_eq_true, beq_iff_eq];by_cases hab : a = b
  ·subst hab;exact .inr ⟨rfl, wud x y (fun e => h (by rw [e])) (k.2 rfl)⟩
  exact .inl (yze k.1 hab)
def blt (x y : ByteArray) : Bool := Op.bytesLess x.toList y.toList
theorem yka (x : ByteArray) : blt x x = false := zDc _
theorem wla {x y z : ByteArray} (h : blt x y = true) (k : blt y z = true) : blt x z = true := xFc _ _ _ h k
theorem wPb {x y : ByteArray} (h : x ≠ y) (k : blt x y = false) : blt y x = true := by
 refine wud _ _ (fun e => h ?_) k;have := wja x y;rw [e] at this;simpa using this
theorem wvd {x y : ByteArray} (h : blt x y = true) : x ≠ y := fun e => by rw [e, yka] at h; cases h
def Asc (l : List ByteArray) : Prop := l.Pairwise fun x y => blt x y = true
theorem yTc : ∀ {l m : List ByteArray}, Asc l -> Asc m -> (∀ x, x ∈ l <-> x ∈ m) -> l = m
 | [], [], _, _, _ => rfl
 | [], y :: m, _, _, h => by have := (h y).2 (List.mem_cons_self ..); cases this
 | x :: l, [], _, _, h => by have := (h x).1 (List.mem_cons_self ..); cases this
 | x :: l, y :: m, hl, hm, h => by
  obtain ⟨h1, h2⟩ := List.pairwise_cons.1 hl;obtain ⟨k1, k2⟩ := List.pairwise_cons.1 hm;have e : x = y := by
   rcases List.mem_cons.1 ((h x).1 (List.mem_cons_self ..)) with e | hx
   ·exact e
   rcases List.mem_cons.1 ((h y).2 (List.mem_cons_self ..)) with e | hy
   ·exact e.symm
   have := wla (h1 y hy) (k1 x hx);rw [yka] at this; cases this
  subst e;congr 1;refine yTc h2 k2 fun z => ?_;have hz := h z;simp only [List.mem_cons] at hz;constructor
  ·intro hzl;rcases hz.1 (.inr hzl) with e | hzm
   ·subst e; have := h1 z hzl; rw [yka] at this; cases this
   exact hzm
  intro hzm;rcases hz.2 (.inr hzm) with e | hzl
  ·subst e; have := k1 z hzm; rw [yka] at this; cases this
  exact hzl
def xsa (s : ByteArray) : List ByteArray -> Bool -> List ByteArray
 | [], done => if done = true then [] else [s]
 | x :: l, done => (if done = false /\ blt x s = false then [s] else []) ++ ((if x = s then [] else [x]) ++ xsa s l (done || !blt x s))
def wia (l : List ByteArray) (s : ByteArray) : List ByteArray := xsa s l false
theorem wdb (s : ByteArray) : ∀ l, (∀ x ∈ l, x ≠ s) -> xsa s l true = l
 | [], _ => rfl
 | x :: l, h => by
  have h1 := h x (List.mem_cons_self ..);have h2 := wdb s l fun y hy => h y (List.mem_cons_of_mem _ hy);simp [xsa, h1, h2]
theorem xGc (s : ByteArray) : ∀ l, Asc l -> (∀ x, x ∈ xsa s l false <-> x = s ∨ x ∈ l) /\ Asc (xsa s l false)
 | [], _ => by simp [xsa, Asc]
 | x :: l, h => by
  obtain ⟨h1, h2⟩ := List.pairwise_cons.1 h;have ih := xGc s l h2;cases hx : blt x s with
  | true =>
   have hne : x ≠ s := wvd hx;have e : xsa s (x :: l) false = x :: xsa s l false := by simp [xsa, hx, hne]
   rw [e];refine ⟨fun y => ?_, .cons (fun y hy => ?_) ih.2⟩
   ·simp only [List.mem_cons, ih.1 y]; constructor
    ·rintro (h | h | h)
     ·exact .inr (.inl h)
     ·exact .inl h
     exact .inr (.inr h)
    rintro (h | h | h)
    ·exact .inr (.inl h)
    ·exact .inl h
    exact .inr (.inr h)
   rcases (ih.1 y).1 hy with rfl | hy
   ·exact hx
   exact h1 y hy
  | false =>
   have hl : ∀ y ∈ l, y ≠ s := by
    intro y hy e;subst e;have := h1 y hy;rw [hx] at this; cases this
   have e : xsa s (x :: l) false = s :: ((if x = s then [] else [x]) ++ l) := by simp [xsa, hx, wdb s l hl]
   rw [e];by_cases hxs : x = s
   ·subst hxs;simp;exact h
   simp only [if_neg hxs];have hsx := wPb hxs hx;refine ⟨fun y => by simp, .cons (fun y hy => ?_) h⟩;rcases List.mem_cons.1 hy with rfl | hy
   ·exact hsx
   exact wla hsx (h1 y hy)
theorem xHc (s : ByteArray) : ∀ l done, (xsa s l done).length <= l.length + 1 /\ (done = true -> (xsa s l done).length <= l.length)
 | [], done => by cases done <;> simp [xsa]
 | x :: l, done => by
  have h1 := xHc s l (done || !blt x s);cases done with
  | true =>
   simp only [xsa, Bool.true_or] at h1 ⊢;have := h1.2 trivial;simp only [List.length_append, List.length_cons];split <;> split <;> simp_all <;> omega
  | false =>
   cases hx : blt x s with
   | true =>
    simp only [xsa, hx, Bool.false_or, Bool.not_true] at h1 ⊢;simp only [List.length_append, List.length_cons];have := h1.1;refine ⟨?_, fun h => by cases h⟩;split <;> split <;> simp_all <;> omega
   | false =>
    simp only [xsa, hx, Bool.false_or, Bool.not_false] at h1 ⊢;simp only [List.length_append, List.length_cons];have := h1.2 trivial;refine ⟨?_, fun h => by cases h⟩;split <;> split <;> simp_all <;> omega
theorem wQb : ∀ (xs l : List ByteArray), (xs.foldl wia l).length <= l.length + xs.length
 | [], l => Nat.le_refl _
 | x :: xs, l => by
  have h1 := wQb xs (wia l x);have h2 := (xHc x l false).1;simp only [List.foldl_cons, List.length_cons];unfold wia at h1 ⊢;omega
theorem wRb : ∀ (xs l : List ByteArray), Asc l -> (∀ x, x ∈ xs.foldl wia l <-> x ∈ l ∨ x ∈ xs) /\ Asc (xs.foldl wia l)
 | [], l, h => by simpa using h
 | y :: xs, l, h => by
  obtain ⟨h1, h2⟩ := xGc y l h;obtain ⟨k1, k2⟩ := wRb xs (wia l y) h2;refine ⟨fun x => ?_, k2⟩;rw [List.foldl_cons, k1 x];unfold wia;rw [h1 x, List.mem_cons];constructor
  ·rintro ((h | h) | h)
   ·exact .inr (.inl h)
   ·exact .inl h
   exact .inr (.inr h)
  rintro (h | h | h)
  ·exact .inl (.inr h)
  ·exact .inl (.inl h)
  exact .inr h
def zCa (xs : List ByteArray) : List ByteArray := xs.foldl wia []
theorem wTa (xs : List ByteArray) (x : ByteArray) : x ∈ zCa xs <-> x ∈ xs := by
 have := (wRb xs [] .nil).1 x;simpa [zCa] using this
theorem wUa (xs : List ByteArray) : Asc (zCa xs) := (wRb xs [] .nil).2
theorem xpa (xs : List ByteArray) : (zCa xs).length <= xs.length := by have := wQb xs []; simpa [zCa] using this
theorem yUc {xs ys : List ByteArray} (h : ∀ x, x ∈ xs <-> x ∈ ys) : zCa xs = zCa ys :=
 yTc (wUa xs) (wUa ys) fun x => by rw [wTa, wTa]; exact h x
def one (c : Prop) [Decidable c] (s : ByteArray) : List ByteArray := if c then [s] else []
mutual
def Ex.pre (q : Int) : Ex -> List ByteArray
 | .mk k _ s l => one (k = q) s ++ Ex.pres q l
def Ex.pres (q : Int) : List Ex -> List ByteArray
 | [] => []
 | x :: l => x.pre q ++ Ex.pres q l
end
mutual
def Ex.post (q : Int) : Ex -> List ByteArray
 | .mk k _ s l => Ex.posts q l ++ one (k = q) s
def Ex.posts (q : Int) : List Ex -> List ByteArray
 | [] => []
 | x :: l => x.post q ++ Ex.posts q l
end
mutual
theorem Ex.pre_post (q : Int) (x : ByteArray) : ∀ e : Ex, x ∈ e.pre q <-> x ∈ e.post q
 | .mk k n s l => by
  rw [Ex.pre, Ex.post, List.mem_append, List.mem_append, Ex.pres_posts q x l];exact Or.comm
theorem Ex.pres_posts (q : Int) (x : ByteArray) : ∀ l : List Ex, x ∈ Ex.pres q l <-> x ∈ Ex.posts q l
 | [] => Iff.rfl
 | e :: l => by rw [Ex.pres, Ex.posts, List.mem_append, List.mem_append, Ex.pre_post q x e, Ex.pres_posts q x l]
end
mutual
def Sm.names (q : Int) : Sm -> List ByteArray
 | .mk k s _ _ _ _ b => one (k = q) s ++ Sm.namesL q b
def Sm.namesL (q : Int) : List Sm -> List ByteArray
 | [] => []
 | x :: l => x.names q ++ Sm.namesL q l
end
mutual
def Sm.exps (f : Ex -> List ByteArray) : Sm -> List ByteArray
 | .mk _ _ a e lo hi b => f a ++ (f e ++ (f lo ++ (f hi ++ Sm.expsL f b)))
def Sm.expsL (f : Ex -> List ByteArray) : List Sm -> List ByteArray
 | [] => []
 | x :: l => x.exps f ++ Sm.expsL f l
end
mutual
theorem Sm.exps_iff {f g : Ex -> List ByteArray} {x : ByteArray} (h : ∀ e, x ∈ f e <-> x ∈ g e) : ∀ s : Sm, x ∈ s.exps f <-> x ∈ s.exps g
 | .mk k s a e lo hi b => by simp only [Sm.exps, List.mem_append, h, Sm.expsL_iff h b]
theorem Sm.expsL_iff {f g : Ex -> List ByteArray} {x : ByteArray} (h : ∀ e, x ∈ f e <-> x ∈ g e) : ∀ l : List Sm, x ∈ Sm.expsL f l <-> x ∈ Sm.expsL g l
 | [] => Iff.rfl
 | s :: l => by simp only [Sm.expsL, List.mem_append, Sm.exps_iff h s, Sm.expsL_iff h l]
end
theorem web (q : Int) (l : List Sm) : zCa (Sm.expsL (Ex.post q) l) = zCa (Sm.expsL (Ex.pre q) l) :=
 yUc fun x => Sm.expsL_iff (fun e => (Ex.pre_post q x e).symm) l
-- how long these are
theorem yVc (c : Prop) [Decidable c] (s : ByteArray) : (one c s).length <= 1 := by unfold one; split <;> simp
mutual
theorem Ex.pre_len (q : Int) : ∀ e : Ex, (e.pre q).length <= 1 + e.tot
 | .mk k n s l => by
  rw [Ex.pre, Ex.tot, List.length_append];have := Ex.pres_len q l;have := yVc (k = q) s;omega
theorem Ex.pres_len (q : Int) : ∀ l : List Ex, (Ex.pres q l).length <= Ex.tots l
 | [] => Nat.zero_le _
 | e :: l => by
  rw [Ex.pres, Ex.tots, List.length_append];have := Ex.pre_len q e;have := Ex.pres_len q l;omega
end
mutual
theorem Ex.post_len (q : Int) : ∀ e : Ex, (e.post q).length <= 1 + e.tot
 | .mk k n s l => by
  rw [Ex.post, Ex.tot, List.length_append];have := Ex.posts_len q l;have := yVc (k = q) s;omega
theorem Ex.posts_len (q : Int) : ∀ l : List Ex, (Ex.posts q l).length <= Ex.tots l
 | [] => Nat.zero_le _
 | e :: l => by
  rw [Ex.posts, Ex.tots, List.length_append];have := Ex.post_len q e;have := Ex.posts_len q l;omega
end
mutual
theorem Sm.names_len (q : Int) : ∀ e : Sm, (e.names q).length <= 1 + e.tot
 | .mk k s a e lo hi b => by
  rw [Sm.names, Sm.tot, List.length_append];have := Sm.namesL_len q b;have := yVc (k = q) s;omega
theorem Sm.namesL_len (q : Int) : ∀ l : List Sm, (Sm.namesL q l).length <= Sm.tots l
 | [] => Nat.zero_le _
 | e :: l => by
  rw [Sm.namesL, Sm.tots, List.length_append];have := Sm.names_len q e;have := Sm.namesL_len q l;omega
end
mutual
theorem Sm.exps_len {f : Ex -> List ByteArray} (hf : ∀ e, (f e).length <= 1 + e.tot) : ∀ e : Sm, (e.exps f).length <= 4 * (1 + e.tot)
 | .mk k s a e lo hi b => by
  simp only [Sm.exps, Sm.tot, List.length_append];have := Sm.expsL_len hf b;have := hf a;have := hf e;have := hf lo;have := hf hi;omega
theorem Sm.expsL_len {f : Ex -> List ByteArray} (hf : ∀ e, (f e).length <= 1 + e.tot) : ∀ l : List Sm, (Sm.expsL f l).length <= 4 * Sm.tots l
 | [] => Nat.zero_le _
 | e :: l => by
  rw [Sm.expsL, Sm.tots, List.length_append];have := Sm.exps_len hf e;have := Sm.expsL_len hf l;omega
end
-- is no loop's name that of one it is in?
mutual
def Sm.nest : Sm -> List ByteArray -> Bool
 | .mk k s _ _ _ _ b, ns => decide (k ≠ 3) || (!has ns s && Sm.nests b (ns ++ [s]))
def Sm.nests : List Sm -> List ByteArray -> Bool
 | [], _ => true
 | x :: l, ns => x.nest ns && Sm.nests l ns
end
def zqa : Option ByteArray -> List Ar -> Bool
 | _, [] => true
 | p, a :: l => zxa a.s && (inR a.n 1 16 && ((match p with | none => true | some q => blt q a.s) && zqa (some a.s) l))
def xNa : Nat -> List ByteArray -> ByteArray -> Int
 | _, [], _ => -1
 | i, x :: l, s => if x = s then i else xNa (i + 1) l s
def at_ (l : List ByteArray) (s : ByteArray) : Int := xNa 0 l s
theorem zcb (s : ByteArray) : ∀ l i, (0 <= xNa i l s <-> has l s = true)
 | [], i => by simp [xNa, has]
 | x :: l, i => by
  have ih := zcb s l (i + 1);unfold has at ih ⊢;by_cases h : x = s
  ·simp [xNa, h]
  simp only [xNa, if_neg h, List.any_cons, h, decide_false, Bool.false_or];exact ih
def Pg.arrNames (p : Pg) : List ByteArray := p.arrs.map Ar.s
def Pg.isArr (p : Pg) (s : ByteArray) : Bool := has p.arrNames s
def Pg.vars (p : Pg) : List ByteArray := zCa (Sm.namesL 1 p.body)
def Pg.loops (p : Pg) : List ByteArray := zCa (Sm.namesL 3 p.body)
def Pg.puts (p : Pg) : List ByteArray := zCa (Sm.namesL 2 p.body)
def Pg.asked (p : Pg) (q : Int) : List ByteArray := zCa (Sm.expsL (Ex.pre q) p.body)
def Pg.head (p : Pg) : Bool := zqa none p.arrs && (decide (p.arrs.length <= 4) && (decide (p.body.length <= 12) && (decide (zYa Sm.size p.body <= 40) && p.body.all Sm.ok)))
def Pg.namesB (p : Pg) : Bool := p.puts.all p.isArr && ((p.asked 3).all p.isArr && (!p.vars.any p.isArr && (!p.loops.any p.isArr && (!(p.asked 2).any p.isArr && (!p.loops.any (fun x => has p.vars x) && (Sm.nests p.body [] && decide (p.vars.length <= 6)))))))
def Pg.ok (p : Pg) : Bool := p.head && p.namesB
def ints (l : List Int) : AV := .lst false 1 (l.map (AV.int .i64))
structure Pu where
 at_ : Int
 n : Int
def Pu.cells (p : Pu) : List AV := [.int .i64 p.at_, .int .i64 p.n]
def Pu.av (p : Pu) : AV := .agg p.cells
@[simp] theorem Pu.cells_len (e : Pu) : e.cells.length = 2 := rfl
@[simp] theorem Pu.take0 (e : Pu) : List.take 2 e.cells = e.cells := rfl
@[simp] theorem Pu.cells_ok (e : Pu) : e.cells.all zya = true := rfl
structure Hd where
 pc : Int
 stack : List Int
 regs : List Int
 shelf : List Pu
 here : Bool
 done : Bool
def Hd.cells (h : Hd) : List AV := [.int .i64 h.pc, ints h.stack, ints h.regs, .lst false 2 (h.shelf.map Pu.av), .bool h.here, .bool h.done]
def Hd.av (h : Hd) : AV := .agg h.cells
@[simp] theorem Hd.cells_len (e : Hd) : e.cells.length = 6 := rfl
@[simp] theorem Hd.take0 (e : Hd) : List.take 6 e.cells = e.cells := rfl
@[simp] theorem Hd.cells_ok (e : Hd) : e.cells.all zya = true := rfl
structure Mc where
 mem : List Int
 hands : List Hd
 out : List Int
 trap : Bool
def Mc.cells (m : Mc) : List AV := [ints m.mem, .lst false 6 (m.hands.map Hd.av), ints m.out, .bool m.trap]
def Mc.av (m : Mc) : AV := .agg m.cells
@[simp] theorem Mc.cells_len (e : Mc) : e.cells.length = 4 := rfl
@[simp] theorem Mc.take0 (e : Mc) : List.take 4 e.cells = e.cells := rfl
@[simp] theorem Mc.cells_ok (e : Mc) : e.cells.all zya = true := rfl
structure Tm where
 s : ByteArray
 n : Int
def Tm.cells (t : Tm) : List AV := [.str t.s, .int .i64 t.n]
def Tm.av (t : Tm) : AV := .agg t.cells
@[simp] theorem Tm.cells_len (e : Tm) : e.cells.length = 2 := rfl
@[simp] theorem Tm.take0 (e : Tm) : List.take 2 e.cells = e.cells := rfl
@[simp] theorem Tm.cells_ok (e : Tm) : e.cells.all zya = true := rfl
structure Af where
 c : Int
 t : List Tm
def tms (l : List Tm) : AV := .lst false 2 (l.map Tm.av)
def Af.cells (a : Af) : List AV := [.int .i64 a.c, tms a.t]
@[simp] theorem Af.cells_len (e : Af) : e.cells.length = 2 := rfl
@[simp] theorem Af.take0 (e : Af) : List.take 2 e.cells = e.cells := rfl
@[simp] theorem Af.cells_ok (e : Af) : e.cells.all zya = true := rfl
structure Rg where
 s : ByteArray
 lo : Int
 hi : Int
def Rg.cells (r : Rg) : List AV := [.str r.s, .int .i64 r.lo, .int .i64 r.hi]
@[simp] theorem Rg.cells_len (e : Rg) : e.cells.length = 3 := rfl
@[simp] theorem Rg.take0 (e : Rg) : List.take 3 e.cells = e.cells := rfl
@[simp] theorem Rg.cells_ok (e : Rg) : e.cells.all zya = true := rfl
def rest (l : List Tm) (s : ByteArray) : List Tm := l.filter fun t => decide (t.s ≠ s)
def zPf (l : List Rg) (s : ByteArray) : Int := at_ (l.map Rg.s) s
def yAe (l : List Rg) (i : Nat) : Bool :=
 match l[i]? with
 | some r => zxa r.s && (inR r.lo (-10000) 10000 && (inR r.hi (-10000) 10000 && decide (zPf l r.s = i)))
 | none => true
def zfe (l : List Rg) (n : Nat) : Bool := (List.range n).all (yAe l)
def x0e (l : List Rg) : Bool := zfe l l.length && decide (l.length <= 8)
def zQf (l : List Rg) : Bool := l.all fun r => decide (r.lo <= r.hi)
def full (l : List Rg) : Bool := zQf l && x0e l
section
variable {P : Program} (p : Bool) (s : St) (K : St -> Prop) (d : Option Tmp) (T : TypeId) (pos : String) (af : Array Edge) (g : Option (Nat × Bool))
def x1e : AV -> Option AV
 | .ptr g o => some (.ptr g o)
 | .ref cs => some (.ref cs)
 | .elt g e i o => some (.elt g e i o)
 | .func (.func f) cs => some (.func (.func f) cs)
 | _ => none
@[simp] theorem xje (g o : Nat) : x1e (.ptr g o) = some (.ptr g o) := (_root_.id rfl)
theorem xFd (m : Mem) (ev : Operand -> AV) (x : Operand) : yGa P m ev (.nilCheck x) = x1e (ev x) := by
 simp only [yGa];generalize ev x = v;cases v with
 | func fn cs => cases fn <;> rfl
 | _ => rfl
@[simp] theorem xGd (T : TypeId) (cs : List AV) (k : IntKind) (i : Int) : xXa P T (.agg cs) (.int k i) = match P.underlying T with
  | some (.array n e) => if 0 <= i /\ i < n then (match szT P e, xta P e with | some z, some b => xHa z b (cs.drop (i.toNat * z)) | _, _ => none) else none
  | _ => none := (_root_.id rfl)
@[simp] theorem wwd (x : Operand) : AOp P p ⟨d, .nilCheck x, T, pos, af, g⟩ s K = goO (x1e (s.eval x)) d s K := by
 exact xMa (xFd ..) (fun _ h => h)
end
end Go.T
