/- A region that draws its order, whose operations read and whose calls leave all blocks below G as they were: one walk in the order of the text. -/
import Derived.Test.YtidddeobachjgaaLibR
import Derived.Test.YtidddeobachjgaaLibG
import Derived.Deep.QuietTactic
import Derived.BigQuiet
namespace Go.Proofs.Ytidddeobachjgaa
open Go.RowKit
open Classical in
/-- Some world in which all blocks below G are as in W. -/
noncomputable def grown (G : Nat) (W : World) (x : World) : World := if Below G W x ∧ G ≤ x.heap.size then x else W
theorem grown_of {G : Nat} {W x : World} (h : Below G W x) (hG : G ≤ x.heap.size) : grown G W x = x := if_pos ⟨h, hG⟩
theorem grown_below (G : Nat) (W x : World) : Below G W (grown G W x) := by
  unfold grown
  split
  · rename_i h; exact h.1
  · exact Below.refl _ _
theorem grown_size (G : Nat) (W x : World) (hG : G ≤ W.heap.size) : G ≤ (grown G W x).heap.size := by
  unfold grown
  split
  · rename_i h; exact h.2
  · exact hG
theorem grown_cell {G : Nat} {W x : World} {b : Nat} (o : Nat) (h : b < G) : (grown G W x).cell? ⟨b, o, none⟩ = W.cell? ⟨b, o, none⟩ := (grown_below G W x).cell (p := ⟨b, o, none⟩) h
theorem grown_frozen {G : Nat} {W x : World} {b : Nat} (o : Nat) (h : b < G) : (grown G W x).frozen? ⟨b, o, none⟩ = W.frozen? ⟨b, o, none⟩ := (grown_below G W x).frozen (p := ⟨b, o, none⟩) h

theorem wp_region_grown {P : Program} {id : Nat} {Q : Exit → Act → World → Prop} {a : Act} {w : World} {l : List Oper} (G : Nat) (hG : G ≤ w.heap.size) (hm : P.follows .mixedOrders = true) (hB : Region.lexB .any l.toArray = true)
    (h : wpQuiet P l.toArray (fun w' => ∃ n, w' = grown G w n) (fun a' => ∀ w', (∃ n, w' = grown G w n) → Q .normal a' w') l a) : (Code.region id l.toArray true).wp P Q a w :=
  wp_region_quiet (C := fun w' => ∃ n, w' = grown G w n) hm hB ⟨{ w with drawn := w.drawn + 1 }, (grown_of ((Below.refl G w).drew) hG).symm⟩ (by simpa using h)

/-- A callee's contract in such a region. -/
theorem calls_grown {P : Program} {f : FuncId} {args : Array Value} {G : Nat} {W x : World} {v : Value} (hG : G ≤ W.heap.size) (h : ∀ w, Calls P f args w fun e w' => e = .returned v ∧ Below w.heap.size w w') :
    Calls P f args (grown G W x) fun e w'' => e = .returned v ∧ ∃ n, w'' = grown G W n :=
  (h _).mono fun _ w'' ⟨he, hb⟩ => ⟨he, w'', (grown_of ((grown_below G W x).trans (hb.mono (grown_size G W x hG))) (Nat.le_trans (grown_size G W x hG) hb.size)).symm⟩

/-- The same, where the contract asks that what lies below G is as it was. -/
theorem calls_grown' {P : Program} {f : FuncId} {args : Array Value} {G : Nat} {W x : World} {v : Value} (hG : G ≤ W.heap.size) (h : ∀ w, Below G W w → G ≤ w.heap.size → Calls P f args w fun e w' => e = .returned v ∧ Below w.heap.size w w') :
    Calls P f args (grown G W x) fun e w'' => e = .returned v ∧ ∃ n, w'' = grown G W n :=
  (h _ (grown_below G W x) (grown_size G W x hG)).mono fun _ w'' ⟨he, hb⟩ => ⟨he, w'', (grown_of ((grown_below G W x).trans (hb.mono (grown_size G W x hG))) (Nat.le_trans (grown_size G W x hG) hb.size)).symm⟩

/-- A callee's contract in a drawn region that also makes a variable. -/
theorem calls_decl {P : Program} {f : FuncId} {args : Array Value} {G : Nat} {W x : World} {c : Value} {t : TypeId} {vals : Array Value} (hG : G ≤ W.heap.size) (h : ∀ w, Calls P f args w fun e w' => e = .returned c ∧ Below w.heap.size w w') :
    Calls P f args (grown G W x) fun e w'' => ∃ v, e = .returned v ∧ (∃ n, w'' = grown G W n) ∧ E1 G t vals (grown G W x) w'' ∧ v = c :=
  (h _).mono fun _ w'' ⟨he, hb⟩ => ⟨c, he, ⟨w'', (grown_of ((grown_below G W x).trans (hb.mono (grown_size G W x hG))) (Nat.le_trans (grown_size G W x hG) hb.size)).symm⟩, .inl ⟨hb, grown_size G W x hG⟩, rfl⟩
theorem grown_E1 {G : Nat} {W x w' : World} {t : TypeId} {vals : Array Value} (hG : G ≤ W.heap.size) (h : E1 G t vals (grown G W x) w') : ∃ n, w' = grown G W n := by
  have hb : Below G (grown G W x) w' := h.below
  exact ⟨w', (grown_of ((grown_below G W x).trans hb) (Nat.le_trans (grown_size G W x hG) hb.size)).symm⟩
theorem E1_alloc {G : Nat} {W : World} (t : TypeId) (vals : Array Value) (hG : G ≤ W.heap.size) (o : Obj) : E1 G t vals W (W.alloc o) := .inl ⟨(Below.refl _ _).alloc (Nat.le_refl _) _, hG⟩
theorem E1_set4 {G g : Nat} {W : World} {t : TypeId} {c0 c1 c2 c3 x0 x1 x2 x3 : Value} (hg : G ≤ g) (h : Blk W g t #[c0, c1, c2, c3]) :
    E1 G t #[x0, x1, x2, x3] W ((((W.setCell ⟨g, 0, none⟩ x0).setCell ⟨g, 1, none⟩ x1).setCell ⟨g, 2, none⟩ x2).setCell ⟨g, 3, none⟩ x3) ∧
    Blk ((((W.setCell ⟨g, 0, none⟩ x0).setCell ⟨g, 1, none⟩ x1).setCell ⟨g, 2, none⟩ x2).setCell ⟨g, 3, none⟩ x3) g t #[x0, x1, x2, x3] := by
  have hb : Blk ((((W.setCell ⟨g, 0, none⟩ x0).setCell ⟨g, 1, none⟩ x1).setCell ⟨g, 2, none⟩ x2).setCell ⟨g, 3, none⟩ x3) g t #[x0, x1, x2, x3] := by
    simpa using (((h.set_ 0 x0).set_ 1 x1).set_ 2 x2).set_ 3 x3
  refine ⟨.inr ⟨rfl, rfl, rfl, by simp [World.setCell], g, _, hg, h, rfl, hb, fun k hk => ?_⟩, hb⟩
  rw [Below.heap_setCell _ _ _ _ (by simpa using hk), Below.heap_setCell _ _ _ _ (by simpa using hk), Below.heap_setCell _ _ _ _ (by simpa using hk), Below.heap_setCell _ _ _ _ (by simpa using hk)]
theorem alloc_decl {G : Nat} {W : World} {t : TypeId} {vals cs : Array Value} (hG : G ≤ W.heap.size) (hs : cs.size = vals.size) (x : World) :
    (∃ n, (grown G W x).alloc (.cells cs t) = grown G W n) ∧ E1 G t vals (grown G W x) ((grown G W x).alloc (.cells cs t)) ∧ NewPtr G (.pointer (some ⟨(grown G W x).heap.size, 0, none⟩)) ∧
      NewBlk G t vals.size (.pointer (some ⟨(grown G W x).heap.size, 0, none⟩)) ((grown G W x).alloc (.cells cs t)) := by
  have hz := grown_size G W x hG
  have hE : E1 G t vals (grown G W x) ((grown G W x).alloc (.cells cs t)) := E1_alloc t vals hz _
  exact ⟨grown_E1 hG hE, hE, ⟨_, rfl, hz⟩, _, cs, rfl, hz, heap_alloc_new _ _, hs⟩
end Go.Proofs.Ytidddeobachjgaa
