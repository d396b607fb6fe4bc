/- How an argument '[][2]int' reads. -/
import Derived.Test.YtffabippjhipbaaLibRd
import Derived.Deep.Slices
namespace Go.Proofs.Ytffabippjhipbaa
open Go.ChangeShapes Go.WideShapes Go.ChangeAt Go.RowKit Go.Joins Go.Deep
section
variable {H : Type} {enc : TypeId × Value → H} {W : World} {base : Nat} {v : Value} {d : DataW H} {p : List MemPlace}
theorem trod_array2 {P : Program} {base : Nat} {spare : Nat → Bool} {held : Bool} {t e : TypeId} {fuel : Nat} {c0 c1 : Value} {x : DataW H × List MemPlace} (ht : P.underlying t = some (.array 2 e)) (hce : P.cellsOf e = 1)
    (h : DataW.trod enc P W base spare held fuel t [c0, c1] = some x) :
    ∃ y0 y1 n, DataW.trod enc P W base spare held n e [c0] = some y0 ∧ DataW.trod enc P W base spare held n e [c1] = some y1 := by
  cases fuel with
  | zero => simp [DataW.trod] at h
  | succ n =>
    unfold DataW.trod at h
    rw [ht] at h
    have r2 : List.range 2 = [0, 1] := rfl
    simp [r2, hce] at h
    obtain ⟨_, h⟩ := h
    cases h0 : DataW.trod enc P W base spare held n e [c0] with
    | none => simp [h0] at h
    | some y0 =>
      cases h1 : DataW.trod enc P W base spare held n e [c1] with
      | none => simp [h0, h1] at h
      | some y1 => exact ⟨y0, y1, n, h0, h1⟩
theorem rd_pairs (hv : Value.okWide Try.prog W .any base 31 v) (h : DataW.Trod enc Try.prog W 0 (fun _ => true) true 31 v d p) :
    ∃ (base : Option Addr) (bl off len cap : Nat) (f g : Nat → Int), v = .slice base len cap ∧ len ≤ cap ∧ (0 < len → base = some ⟨bl, off, none⟩ ∧ bl < W.heap.size) ∧
      ∀ i, i < len → W.cell? ⟨bl, off + i * 2, none⟩ = some (.int .i64 (f i)) ∧ W.cell? ⟨bl, off + i * 2 + 1, none⟩ = some (.int .i64 (g i)) := by
  obtain ⟨sa, sl, sc, rfl⟩ := okWide_slice Try.underlying31 hv
  obtain ⟨fuel, hf⟩ := h
  rcases open_slice Try.underlying31 hf with ⟨e, -⟩ | ⟨a, len, cap, m, n, D, Pl, e, -, hl, -, hm, -, hx⟩
  · exact ⟨none, 0, 0, 0, 0, fun _ => 0, fun _ => 0, List.head_eq_of_cons_eq e, Nat.le_refl _, fun h => absurd h (Nat.lt_irrefl _), fun i hi => absurd hi (Nat.not_lt_zero _)⟩
  · have each : ∀ i, i < len → ∃ x y : Int, W.cell? (a.add (i * 2)) = some (.int .i64 x) ∧ W.cell? (a.add (i * 2 + 1)) = some (.int .i64 y) := by
      intro i hi
      have him : i < m := by rw [hm]; split <;> omega
      obtain ⟨cs', h1, h2⟩ := hx i him
      rw [show Try.prog.cellsOf 32 = 2 by kernel_rfl] at h1
      obtain ⟨_, hlen, hcell⟩ := World.cells?_some h1
      match cs', hlen with
      | [v0, v1], _ =>
        obtain ⟨y0, y1, n', h3, h4⟩ := trod_array2 Try.underlying32 Try.cells_int h2
        obtain ⟨x, e0, _, _⟩ := DataW.trod_int Try.underlying3 h3
        obtain ⟨y, e1, _, _⟩ := DataW.trod_int Try.underlying3 h4
        simp only [List.cons.injEq, and_true] at e0 e1
        subst e0 e1
        have k0 := hcell 0 (by omega)
        have k1 := hcell 1 (by omega)
        rw [add_add] at k0 k1
        exact ⟨x, y, k0, k1⟩
    have hspot : 0 < len → a.spot = none ∧ a.block < W.heap.size := by
      intro h0
      obtain ⟨x, y, e0, -⟩ := each 0 h0
      simp only [Nat.zero_mul, Addr.add, if_true] at e0
      unfold World.cell? at e0
      split at e0
      · rename_i hh
        refine ⟨?_, (Array.getElem?_eq_some_iff.1 hh).1⟩
        cases hs : a.spot with
        | none => rfl
        | some _ => simp [hs] at e0
      · cases e0
    obtain ⟨f, hf⟩ := choose_lt (α := Int × Int) (p := fun i xy => W.cell? (a.add (i * 2)) = some (.int .i64 xy.1) ∧ W.cell? (a.add (i * 2 + 1)) = some (.int .i64 xy.2)) (fun i hi => by
      obtain ⟨x, y, h⟩ := each i hi
      exact ⟨(x, y), h⟩)
    have fix : ∀ i, 0 < len → a.add i = ⟨a.block, a.off + i, none⟩ := by
      intro i h0
      unfold Addr.add
      split
      · rename_i h; subst h; rw [Nat.add_zero]; cases a; cases (hspot h0).1; rfl
      · rfl
    refine ⟨some a, a.block, a.off, len, cap, fun i => (f i).1, fun i => (f i).2, List.head_eq_of_cons_eq e, hl, fun h0 => ⟨?_, (hspot h0).2⟩, fun i hi => ?_⟩
    · have := fix 0 h0
      simp only [Addr.add, if_true] at this
      rw [this]
    · have := hf i hi
      rw [fix _ (by omega), fix _ (by omega)] at this
      exact ⟨this.1, by rw [Nat.add_assoc]; exact this.2⟩
end
end Go.Proofs.Ytffabippjhipbaa
