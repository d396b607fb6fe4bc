/- A region that draws its order, whose operations read and whose calls leave all blocks below G as they were: one walk in the order of the text. -/
import Derived.Test.YtffabippjhipbaaLibR
import Derived.Deep.QuietTactic
import Derived.BigQuiet
namespace Go.Proofs.Ytffabippjhipbaa
open Go.RowKit
open Classical in
/-- Some world in which all blocks below G are as in W. -/
noncomputable def grown (G : Nat) (W : World) (x : World) : World := if Below G W x ∧ G ≤ x.heap.size then x else W
theorem grown_of {G : Nat} {W x : World} (h : Below G W x) (hG : G ≤ x.heap.size) : grown G W x = x := if_pos ⟨h, hG⟩
theorem grown_below (G : Nat) (W x : World) : Below G W (grown G W x) := by
  unfold grown
  split
  · rename_i h; exact h.1
  · exact Below.refl _ _
theorem grown_size (G : Nat) (W x : World) (hG : G ≤ W.heap.size) : G ≤ (grown G W x).heap.size := by
  unfold grown
  split
  · rename_i h; exact h.2
  · exact hG
theorem grown_cell {G : Nat} {W x : World} {b : Nat} (o : Nat) (h : b < G) : (grown G W x).cell? ⟨b, o, none⟩ = W.cell? ⟨b, o, none⟩ := (grown_below G W x).cell (p := ⟨b, o, none⟩) h
theorem grown_frozen {G : Nat} {W x : World} {b : Nat} (o : Nat) (h : b < G) : (grown G W x).frozen? ⟨b, o, none⟩ = W.frozen? ⟨b, o, none⟩ := (grown_below G W x).frozen (p := ⟨b, o, none⟩) h

theorem wp_region_grown {P : Program} {id : Nat} {Q : Exit → Act → World → Prop} {a : Act} {w : World} {l : List Oper} (G : Nat) (hG : G ≤ w.heap.size) (hm : P.follows .mixedOrders = true) (hB : Region.lexB .any l.toArray = true)
    (h : wpQuiet P l.toArray (fun w' => ∃ n, w' = grown G w n) (fun a' => ∀ w', (∃ n, w' = grown G w n) → Q .normal a' w') l a) : (Code.region id l.toArray true).wp P Q a w :=
  wp_region_quiet (C := fun w' => ∃ n, w' = grown G w n) hm hB ⟨{ w with drawn := w.drawn + 1 }, (grown_of ((Below.refl G w).drew) hG).symm⟩ (by simpa using h)

/-- A callee's contract in such a region. -/
theorem calls_grown {P : Program} {f : FuncId} {args : Array Value} {G : Nat} {W x : World} {v : Value} (hG : G ≤ W.heap.size) (h : ∀ w, Calls P f args w fun e w' => e = .returned v ∧ Below w.heap.size w w') :
    Calls P f args (grown G W x) fun e w'' => e = .returned v ∧ ∃ n, w'' = grown G W n :=
  (h _).mono fun _ w'' ⟨he, hb⟩ => ⟨he, w'', (grown_of ((grown_below G W x).trans (hb.mono (grown_size G W x hG))) (Nat.le_trans (grown_size G W x hG) hb.size)).symm⟩
end Go.Proofs.Ytffabippjhipbaa
