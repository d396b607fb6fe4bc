/- A variable of eight cells that a drawn region makes and fills. -/
import Derived.Test.YtidddeobachjgaaLibQ
namespace Go.Proofs.Ytidddeobachjgaa
open Go.RowKit

theorem array8 {α : Type} {cs : Array α} (h : cs.size = 8) : ∃ c0 c1 c2 c3 c4 c5 c6 c7, cs = #[c0, c1, c2, c3, c4, c5, c6, c7] := by
  obtain ⟨l⟩ := cs
  match l, h with
  | [c0, c1, c2, c3, c4, c5, c6, c7], _ => exact ⟨c0, c1, c2, c3, c4, c5, c6, c7, rfl⟩
def set8 (W : World) (g : Nat) (x0 x1 x2 x3 x4 x5 x6 x7 : Value) : World :=
  let W0 := W.setCell ⟨g, 0, none⟩ x0
  let W1 := W0.setCell ⟨g, 1, none⟩ x1
  let W2 := W1.setCell ⟨g, 2, none⟩ x2
  let W3 := W2.setCell ⟨g, 3, none⟩ x3
  let W4 := W3.setCell ⟨g, 4, none⟩ x4
  let W5 := W4.setCell ⟨g, 5, none⟩ x5
  let W6 := W5.setCell ⟨g, 6, none⟩ x6
  W6.setCell ⟨g, 7, none⟩ x7
theorem setE (V : World) (g i : Nat) (u : Value) (k : Nat) (hk : k ≠ g) : (V.setCell ⟨g, i, none⟩ u).heap[k]? = V.heap[k]? := Below.heap_setCell _ _ _ _ (by simpa using hk)
theorem setZ (V : World) (g i : Nat) (u : Value) : (V.setCell ⟨g, i, none⟩ u).heap.size = V.heap.size := by simp [World.setCell]
theorem setO (V : World) (p : Addr) (u : Value) : (V.setCell p u).os = V.os := rfl
theorem setT (V : World) (p : Addr) (u : Value) : (V.setCell p u).tape = V.tape := rfl
theorem setP (V : World) (p : Addr) (u : Value) : (V.setCell p u).output = V.output := rfl
theorem E1_set8 {G g : Nat} {W : World} {t : TypeId} {c0 c1 c2 c3 c4 c5 c6 c7 x0 x1 x2 x3 x4 x5 x6 x7 : Value} (hg : G ≤ g) (h : Blk W g t #[c0, c1, c2, c3, c4, c5, c6, c7]) :
    E1 G t #[x0, x1, x2, x3, x4, x5, x6, x7] W (set8 W g x0 x1 x2 x3 x4 x5 x6 x7) ∧ Blk (set8 W g x0 x1 x2 x3 x4 x5 x6 x7) g t #[x0, x1, x2, x3, x4, x5, x6, x7] := by
  have hb : Blk (set8 W g x0 x1 x2 x3 x4 x5 x6 x7) g t #[x0, x1, x2, x3, x4, x5, x6, x7] := by
    unfold set8
    have h0 := h.set_ 0 x0
    have h1 := h0.set_ 1 x1
    have h2 := h1.set_ 2 x2
    have h3 := h2.set_ 3 x3
    have h4 := h3.set_ 4 x4
    have h5 := h4.set_ 5 x5
    have h6 := h5.set_ 6 x6
    have h7 := h6.set_ 7 x7
    have e : ((((((((#[c0, c1, c2, c3, c4, c5, c6, c7] : Array Value).setIfInBounds 0 x0).setIfInBounds 1 x1).setIfInBounds 2 x2).setIfInBounds 3 x3).setIfInBounds 4 x4).setIfInBounds 5 x5).setIfInBounds 6 x6).setIfInBounds 7 x7 = #[x0, x1, x2, x3, x4, x5, x6, x7] := by simp
    rw [e] at h7
    exact h7
  have hz : (set8 W g x0 x1 x2 x3 x4 x5 x6 x7).heap.size = W.heap.size := by unfold set8; simp only [setZ]
  have ho : (set8 W g x0 x1 x2 x3 x4 x5 x6 x7).os = W.os := by unfold set8; simp only [setO]
  have ht : (set8 W g x0 x1 x2 x3 x4 x5 x6 x7).tape = W.tape := by unfold set8; simp only [setT]
  have hp : (set8 W g x0 x1 x2 x3 x4 x5 x6 x7).output = W.output := by unfold set8; simp only [setP]
  have hk : ∀ k, k ≠ g → (set8 W g x0 x1 x2 x3 x4 x5 x6 x7).heap[k]? = W.heap[k]? := fun k hk => by unfold set8; simp only [setE _ _ _ _ k hk]
  generalize set8 W g x0 x1 x2 x3 x4 x5 x6 x7 = V at *
  exact ⟨.inr ⟨ho, ht, hp, hz, g, _, hg, h, rfl, hb, hk⟩, hb⟩
end Go.Proofs.Ytidddeobachjgaa
