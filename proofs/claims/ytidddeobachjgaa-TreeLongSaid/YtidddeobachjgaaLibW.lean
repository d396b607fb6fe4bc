/- A drawn region that reads, calls what makes a row of comparisons, and stores that row in a field of a row of steps: 'p.Steps[i].Cmps = f(..)'. -/
import Derived.Test.YtidddeobachjgaaLibG
import Derived.Test.YtidddeobachjgaaLibT
namespace Go.Proofs.Ytidddeobachjgaa
open Go.RowKit

/-- Field k of block g bears a row of the call's own, of the comparisons cs. -/
def Stored (G g k : Nat) (W : World) (cs : List Cm) (w : World) : Prop := ∃ u, OwC w G u cs ∧ w.heap[g]? = (W.setCell ⟨g, k, none⟩ u).heap[g]?
def CW (G g k : Nat) (W : World) (cs : List Cm) (w : World) : Prop := W.grownBy w (some g) ∧ G ≤ w.heap.size ∧ (w.heap[g]? = W.heap[g]? ∨ Stored G g k W cs w)
open Classical in
noncomputable def grownW (G g k : Nat) (W : World) (cs : List Cm) (x : World) : World := if CW G g k W cs x then x else W
section
variable {G g k : Nat} {W x w w' : World} {cs : List Cm}
theorem grownW_of (h : CW G g k W cs x) : grownW G g k W cs x = x := if_pos h
theorem grownW_is (hG : G ≤ W.heap.size) : CW G g k W cs (grownW G g k W cs x) := by
  unfold grownW
  split
  · rename_i h; exact h
  · exact ⟨World.grownBy.refl _ _, hG, .inl rfl⟩
theorem grownW_cell (hG : G = W.heap.size) {b : Nat} (o : Nat) (hb : b < G) (hne : b ≠ g) : (grownW G g k W cs x).cell? ⟨b, o, none⟩ = W.cell? ⟨b, o, none⟩ :=
  World.cell?_of_block ((grownW_is (Nat.le_of_eq hG)).1.block b (by omega) (fun e => hne (Option.some.inj e)))
theorem Stored.below (h : Stored G g k W cs w) (hb : Below w.heap.size w w') (hg : g < w.heap.size) : Stored G g k W cs w' := by
  obtain ⟨u, h1, h2⟩ := h
  exact ⟨u, h1.below hb (Nat.le_refl _), (hb.block g hg).trans h2⟩
/-- The field after the store, whatever stood there. -/
theorem CW.set (h : CW G g k W cs w) (hg : g < G) {u : Value} (hu : OwC w G u cs) : Stored G g k W cs (w.setCell ⟨g, k, none⟩ u) := by
  refine ⟨u, hu.set_ (p := ⟨g, k, none⟩) (fun e => ?_) u, ?_⟩
  · have := World.ownsRow.lt hu.1 g e.symm
    omega
  · rcases h.2.2 with e | ⟨u', -, e⟩
    · simp only [World.setCell, Array.getElem?_modify, e]
    · simp only [World.setCell, Array.getElem?_modify, if_true] at e ⊢
      rw [e]
      cases W.heap[g]? with
      | none => rfl
      | some o =>
        cases o <;> simp
theorem CW.below (h : CW G g k W cs w) (hb : Below w.heap.size w w') (hg : g < w.heap.size) : CW G g k W cs w' := by
  refine ⟨⟨hb.os.trans h.1.os, hb.tape.trans h.1.tape, hb.output.trans h.1.output, Nat.le_trans h.1.size hb.size, fun j hj hne => ?_⟩, Nat.le_trans h.2.1 hb.size, ?_⟩
  · exact (hb.block j (Nat.lt_of_lt_of_le hj h.1.size)).trans (h.1.block j hj hne)
  · rcases h.2.2 with e | e
    · exact .inl ((hb.block g hg).trans e)
    · exact .inr (e.below hb hg)
theorem CW.stored (h : CW G g k W cs w) (hg : g < G) {u : Value} (hu : OwC w G u cs) : CW G g k W cs (w.setCell ⟨g, k, none⟩ u) := by
  refine ⟨⟨h.1.os, h.1.tape, h.1.output, by simpa [World.setCell] using h.1.size, fun j hj hne => ?_⟩, by simpa [World.setCell] using h.2.1, .inr (h.set hg hu)⟩
  exact (Below.heap_setCell _ _ _ _ (fun e => hne (by simpa using e))).trans (h.1.block j hj hne)
end

def SlcV (n : Nat) (v : Value) : Prop := ∃ A cap, v = .slice A n cap
def EW (G g k : Nat) (cs : List Cm) (w w' : World) : Prop := (Below w.heap.size w w' ∧ g < w.heap.size) ∨ ∃ u, OwC w G u cs ∧ Stored G g k w cs w' ∧ w' = w.setCell ⟨g, k, none⟩ u
def pfW (G g k : Nat) (W : World) (cs : List Cm) (i1 i2 : Nat) (j : Nat) : Option ((Value → Prop) × ((Nat → Value) → Value → World → Prop)) :=
  if j = i1 then some (SlcV cs.length, fun _ v w => OwC w G v cs)
  else if j = i2 then some (fun v => v = undef, fun _ _ w => Stored G g k W cs w)
  else none
def dW (i1 i2 : Nat) (j : Nat) : List Nat := if j = i2 then [i1] else []

theorem wp_region_cmps {P : Program} {id : Nat} {Q : Exit → Act → World → Prop} {a : Act} {w : World} {l : List Oper} (G g k : Nat) (cs : List Cm) (i1 i2 : Nat) (hG : G = w.heap.size) (hg : g < G)
    (hm : P.follows .mixedOrders = true) (hB : relB l.toArray (dW i1 i2) = true)
    (h : wpRel P l.toArray (fun w' => ∃ n, w' = grownW G g k w cs n) (fun w1 w2 => CW G g k w cs w1 ∧ EW G g k cs w1 w2) (pfW G g k w cs i1 i2) (dW i1 i2) (fun a' w' => Q .normal a' w') l 0 (fun _ => undef) [] a) : (Code.region id l.toArray true).wp P Q a w := by
  refine wp_region_rel (fun w' => ∃ n, w' = grownW G g k w cs n) (fun w1 w2 => CW G g k w cs w1 ∧ EW G g k cs w1 w2) (pfW G g k w cs i1 i2) (dW i1 i2) hm hB ?_ ?_ ?_ ?_ h
  · intro j R hR vs vs' v w' hd hr
    unfold pfW at hR
    split at hR
    · cases hR; exact hr
    · split at hR
      · cases hR; exact hr
      · cases hR
  · intro j R hR
    unfold pfW at hR
    split at hR
    · cases hR; exact ⟨_, none, 0, rfl⟩
    · split at hR
      · cases hR; exact ⟨_, rfl⟩
      · cases hR
  · intro j R hR vs v w1 w2 hr _ hE
    obtain ⟨hC1, hE⟩ := hE
    unfold pfW at hR
    split at hR
    · cases hR
      have hr' : OwC w1 G v cs := hr
      show OwC w2 G v cs
      rcases hE with ⟨hE, -⟩ | ⟨u, hu, -, rfl⟩
      · exact hr'.below hE (Nat.le_refl _)
      · exact hr'.set_ (p := ⟨g, k, none⟩) (fun e => by have := World.ownsRow.lt hr'.1 g e.symm; omega) u
    · split at hR
      · cases hR
        have hr' : Stored G g k w cs w1 := hr
        show Stored G g k w cs w2
        rcases hE with ⟨hE, hlt⟩ | ⟨u, hu, -, rfl⟩
        · exact hr'.below hE hlt
        · exact hC1.set hg hu
      · cases hR
  · have hc : CW G g k w cs w.drew := ⟨⟨rfl, rfl, rfl, Nat.le_refl _, fun _ _ _ => rfl⟩, Nat.le_of_eq hG, .inl rfl⟩
    exact ⟨w.drew, (grownW_of hc).symm⟩
end Go.Proofs.Ytidddeobachjgaa
