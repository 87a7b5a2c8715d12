/- What the functions say, in plain Lean: names. -/
import Derived.Test.YtkheogobahhbpaaT17
namespace Go.T
open Go
def inR (n a b : Int) : Bool := decide (a ≤ n) && decide (n ≤ b)
def small (c : UInt8) : Bool := inR c.toNat 97 122
def keptL : List ByteArray := [⟨#[97, 114, 114, 97, 121]⟩, ⟨#[102, 111, 114]⟩, ⟨#[116, 111]⟩, ⟨#[112, 114, 105, 110, 116]⟩, ⟨#[109, 105, 110]⟩, ⟨#[109, 97, 120]⟩]
def has (l : List ByteArray) (s : ByteArray) : Bool := l.any fun x => decide (x = s)
def kept (s : ByteArray) : Bool := has keptL s
def nameOk (s : ByteArray) : Bool := s.data.toList.all small && (inR s.size 1 6 && !kept s)
def strs (l : List ByteArray) : AV := .lst false 1 (l.map .str)
def noP : Nat → Bool := fun _ => false
def allP : Nat → Bool := fun _ => true
theorem all_drop {s : ByteArray} {i : Nat} (h : i < s.size) (f : UInt8 → Bool) : ∃ b, s.data.toList[i]? = some b ∧ (s.data.toList.drop i).all f = (f b && (s.data.toList.drop (i + 1)).all f) := by
  have h' : i < s.data.toList.length := by have := size_list s; omega
  exact ⟨s.data.toList[i], List.getElem?_eq_getElem h', by rw [List.drop_eq_getElem_cons h', List.all_cons]⟩
theorem drop_size (s : ByteArray) : s.data.toList.drop s.size = [] := List.drop_eq_nil_of_le (by have := size_list s; omega)
end Go.T
