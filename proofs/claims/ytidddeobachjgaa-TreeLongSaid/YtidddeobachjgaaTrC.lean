/- Sizes, what is too great, first places: the walks. -/
import Derived.Test.YtidddeobachjgaaTrB
import Derived.Test.YtidddeobachjgaaPlB
namespace Go.Proofs.Ytidddeobachjgaa
open Go.RowKit

set_option maxRecDepth 100000 in
theorem size_any (p : List Sp) (win : Int) (sv : Value) (w : World) (h : RdS w w.heap.size sv p) (h41 : p.length ≤ 41) (hc : ∀ s ∈ p, s.cmps.length ≤ 21) :
    Calls Try.prog 17 #[ptV sv win] w fun e w' => e = .returned (.int .i64 (sizeF p)) ∧ Below w.heap.size w w' := by
  obtain ⟨A, cap, b, off, rfl, h2, h3, h4, h5⟩ := h
  go_enter Try.func17, Try.ntmps17
  go_wp2
  go_loopw [2, 8] (fun n i wr => ∃ k : Nat, k ≤ p.length ∧ i = .int .i64 k ∧ n = .int .i64 (sizeF (p.take k)) ∧ Below w.heap.size w wr) (fun _ i _ => p.length - (intOf i).toNat)
  case atStart => exact ⟨0, by omega, rfl, by simp [sizeF], (Below.refl _ _).alloc (Nat.le_refl _) _⟩
  case round =>
    obtain ⟨k, hk, rfl, rfl, hB⟩ := hrel
    by_cases hlt : k < p.length
    · obtain ⟨rfl, hb⟩ := h4 (by omega)
      obtain ⟨cs, ⟨cv, rfl, A', cap', b', off', rfl, g2, g3, g4, g5⟩, hat⟩ := h5 k p[k] (List.getElem?_eq_getElem hlt)
      obtain ⟨c0, c1, c2, c3, c4, c5⟩ := (hat.below hB hb).c6
      have hs := size_snoc p k p[k] (List.getElem?_eq_getElem hlt)
      obtain ⟨z1, z2⟩ := size_take p hc k
      have z3 := hc p[k] (by simp)
      have HS := hide hs
      clear hs g4 g5 hat hc
      generalize sizeF (p.take k) = z at *
      generalize p[k].cmps.length = m at *
      go_wp2
      refine ⟨⟨k + 1, by omega, rfl, ?_, ?_⟩, by simp [intOf]; omega⟩
      · rw [HS.out]
      · exact hB.alloc hB.size _
    · obtain rfl : k = p.length := by omega
      go_wp2
      go_ret
      exact ⟨ret_int (by rw [List.take_of_length_le (Nat.le_refl _)]), hB⟩

set_option maxRecDepth 100000 in
theorem great_any (p : List Sp) (win : Int) (sv : Value) (w : World) (h : RdS w w.heap.size sv p) :
    Calls Try.prog 12 #[ptV sv win] w fun e w' => e = .returned (.bool (greatB p)) ∧ Below w.heap.size w w' := by
  obtain ⟨A, cap, b, off, rfl, h2, h3, h4, h5⟩ := h
  go_enter Try.func12, Try.ntmps12
  go_wp2
  go_loopw [3] (fun i wr => ∃ k : Nat, k ≤ p.length ∧ k ≤ 41 ∧ i = .int .i64 k ∧ Hid ((p.take k).any bigB = false) ∧ Below w.heap.size w wr ∧ wr.cell? ⟨w.heap.size, 0, none⟩ = some (.slice A p.length cap)) (fun i _ => p.length - (intOf i).toNat)
  case atStart => exact ⟨0, by omega, by omega, rfl, hide rfl, (Below.refl _ _).alloc (Nat.le_refl _) _, by simp⟩
  case round =>
    obtain ⟨k, hk, hk41, rfl, hno, hB, hcell⟩ := hrel
    by_cases hlt : k < p.length
    · by_cases h40 : k ≤ 40
      · obtain ⟨rfl, hb⟩ := h4 (by omega)
        have hx := List.getElem?_eq_getElem hlt
        obtain ⟨cs, ⟨cv, rfl, A', cap', b', off', rfl, g2, g3, g4, g5⟩, hat⟩ := h5 k p[k] hx
        obtain ⟨c0, c1, c2, c3, c4, c5⟩ := (hat.below hB hb).c6
        by_cases hbig : 20 < p[k].cmps.length
        · have hg := hide (great_yes hx (by omega) hbig)
          clear g4 g5 hat hx
          generalize p[k].cmps.length = m at *
          go_wp2
          go_ret
          exact ⟨ret_bool hg.out.symm, hB⟩
        · have hnx : Hid ((p.take (k + 1)).any bigB = false) := hide (by rw [any_snoc hx, hno.out]; simpa [bigB] using hbig)
          clear g4 g5 hat hx hno
          replace hbig := Nat.not_lt.1 hbig
          generalize p[k].cmps.length = m at *
          go_wp2
          exact ⟨⟨k + 1, by omega, by omega, rfl, hnx, hB, hcell⟩, by simp [intOf]; omega⟩
      · have hg := hide (great_end hno.out (.inr (by omega)))
        clear h4 h5
        go_wp2
        go_ret
        exact ⟨ret_bool hg.out.symm, hB⟩
    · have hg := hide (great_end hno.out (.inl ⟨by omega, hk41⟩))
      clear h4 h5
      go_wp2
      go_ret
      exact ⟨ret_bool hg.out.symm, hB⟩

set_option maxRecDepth 100000 in
theorem great11_any (p : List Sp) (win : Int) (sv : Value) (w : World) (h : RdS w w.heap.size sv p) :
    Calls Try.prog 26 #[ptV sv win] w fun e w' => e = .returned (.bool (greatB p)) ∧ Below w.heap.size w w' := by
  obtain ⟨A, cap, b, off, rfl, h2, h3, h4, h5⟩ := h
  go_enter Try.func26, Try.ntmps26
  go_wp2
  go_loopw [3] (fun i wr => ∃ k : Nat, k ≤ p.length ∧ k ≤ 41 ∧ i = .int .i64 k ∧ Hid ((p.take k).any bigB = false) ∧ Below w.heap.size w wr ∧ wr.cell? ⟨w.heap.size, 0, none⟩ = some (.slice A p.length cap)) (fun i _ => p.length - (intOf i).toNat)
  case atStart => exact ⟨0, by omega, by omega, rfl, hide rfl, (Below.refl _ _).alloc (Nat.le_refl _) _, by simp⟩
  case round =>
    obtain ⟨k, hk, hk41, rfl, hno, hB, hcell⟩ := hrel
    by_cases hlt : k < p.length
    · by_cases h40 : k ≤ 40
      · obtain ⟨rfl, hb⟩ := h4 (by omega)
        have hx := List.getElem?_eq_getElem hlt
        obtain ⟨cs, ⟨cv, rfl, A', cap', b', off', rfl, g2, g3, g4, g5⟩, hat⟩ := h5 k p[k] hx
        obtain ⟨c0, c1, c2, c3, c4, c5⟩ := (hat.below hB hb).c6
        by_cases hbig : 20 < p[k].cmps.length
        · have hg := hide (great_yes hx (by omega) hbig)
          clear g4 g5 hat hx
          generalize p[k].cmps.length = m at *
          go_wp2
          go_ret
          exact ⟨ret_bool hg.out.symm, hB⟩
        · have hnx : Hid ((p.take (k + 1)).any bigB = false) := hide (by rw [any_snoc hx, hno.out]; simpa [bigB] using hbig)
          clear g4 g5 hat hx hno
          replace hbig := Nat.not_lt.1 hbig
          generalize p[k].cmps.length = m at *
          go_wp2
          exact ⟨⟨k + 1, by omega, by omega, rfl, hnx, hB, hcell⟩, by simp [intOf]; omega⟩
      · have hg := hide (great_end hno.out (.inr (by omega)))
        clear h4 h5
        go_wp2
        go_ret
        exact ⟨ret_bool hg.out.symm, hB⟩
    · have hg := hide (great_end hno.out (.inl ⟨by omega, hk41⟩))
      clear h4 h5
      go_wp2
      go_ret
      exact ⟨ret_bool hg.out.symm, hB⟩

end Go.Proofs.Ytidddeobachjgaa
