/- A block that a round leaves as it was: the word in which iterators over memory speak. -/
import Derived.Test.YtidddeobachjgaaLibR
namespace Go.Proofs.Ytidddeobachjgaa
open Go.RowKit Go.Shelf

/-- Block b is in B as it is in A. -/
def KB (b : Nat) (A B : World) : Prop := B.heap[b]? = A.heap[b]?
theorem KB.refl (b : Nat) (A : World) : KB b A A := rfl
theorem KB.trans {b : Nat} {A B C : World} (h : KB b A B) (k : KB b B C) : KB b A C := Eq.trans k h
theorem KB.of_below {b n : Nat} {A B : World} (h : Below n A B) (hb : b < n) : KB b A B := h.block b hb
theorem KB.cell {b : Nat} {A B : World} (h : KB b A B) (o : Nat) : B.cell? ⟨b, o, none⟩ = A.cell? ⟨b, o, none⟩ := World.cell?_of_block (w := A) (a := ⟨b, o, none⟩) h
theorem KB.putObj {b : Nat} {w : World} (hb : b < w.heap.size) (W : World) (l : Nat) (o o' : Obj) (hl : w.heap.size ≤ l) (_ : W.heap[l]? = some o) (_ : o.isCells = false) (_ : o.isWalk = false) : KB b W (W.putObj l o') :=
  World.putObj_heap_other (by omega)
theorem KB.setCell {b : Nat} {W : World} {p : Addr} (hp : b ≠ p.block) (u : Value) : KB b W (W.setCell p u) := Below.heap_setCell _ _ _ _ hp
theorem KB.alloc {b : Nat} {W : World} (h : b < W.heap.size) (o : Obj) : KB b W (W.alloc o) := Below.heap_alloc _ _ _ h

end Go.Proofs.Ytidddeobachjgaa
