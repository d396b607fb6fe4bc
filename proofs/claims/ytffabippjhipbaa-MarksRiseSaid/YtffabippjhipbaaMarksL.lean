/- The examples of the layer of marks: wakes() is true. -/
import Derived.Test.YtffabippjhipbaaMarksF
namespace Go.Proofs.Ytffabippjhipbaa
open Go.RowKit Go.Shelf


theorem floor_c1 (w : World) : Calls Try.prog 16 #[mar 8 9 7 0, .int .i64 3, .int .i64 10] w fun e w' => e = .returned (.int .i64 (-3)) ∧ Below w.heap.size w w' := by
  have h : floorF 8 9 7 0 3 10 = -3 := by decide
  rw [← h]
  exact floor_any 8 9 7 0 3 10 w (by decide) (by decide) (by decide) (by decide) (by decide)
theorem floor_c2 (w : World) : Calls Try.prog 16 #[mar 8 9 7 0, .int .i64 1, .int .i64 (-9223372036854775808)] w fun e w' => e = .returned (.int .i64 9223372036854775807) ∧ Below w.heap.size w w' := by
  have h : floorF 8 9 7 0 1 (-9223372036854775808) = 9223372036854775807 := by decide
  rw [← h]
  exact floor_any 8 9 7 0 1 (-9223372036854775808) w (by decide) (by decide) (by decide) (by decide) (by decide)

set_option maxRecDepth 100000 in
set_option maxHeartbeats 4000000 in
theorem wakes_true (w : World) : Calls Try.prog 18 #[] w fun e w' => e = .returned (.bool true) ∧ Below w.heap.size w w' := by
  have s1 : setOk 5 9 7 0 0 8 = true := rfl
  have s2 : setV 5 9 7 0 0 8 = mar 8 9 7 0 := rfl
  have s3 : setOk 8 9 7 0 0 7 = false := rfl
  have s4 : setOk 8 9 7 0 4 9 = false := rfl
  have l1 : leastF 5 9 7 0 3 = 5 := rfl
  have l2 : leastF 5 9 7 0 4 = 0 := rfl
  have l3 : leastF 5 9 7 0 (-1) = 5 := rfl
  have l4 : leastF 5 9 7 0 99 = 0 := rfl
  have l5 : leastF 8 9 7 0 3 = 7 := rfl
  have t1 : lateF 8 9 7 0 1 8 = true := rfl
  have t2 : lateF 8 9 7 0 1 9 = false := rfl
  have t3 : lateF 8 9 7 0 (-1) 0 = false := rfl
  have r1 : rightF 8 9 7 0 = true := rfl
  have r2 : rightF (-1) 0 0 0 = false := rfl
  have he := eq_arr4
  go_enter Try.func18, Try.ntmps18
  go_wp2_with fail
  refine (stay (set_any _ _ _ _ _ _ _) (Nat.le_refl _)).mono ?_
  rintro e w1 ⟨rfl, hc1, hz1, hB1⟩
  simp only [World.size_alloc, Nat.add_one_le_iff] at hc1 hz1 hB1
  go_wp2_with fail
  refine (stay (set_any _ _ _ _ _ _ _) (Nat.le_refl _)).mono ?_
  rintro e w2 ⟨rfl, hc2, hz2, hB2⟩
  simp only [World.size_alloc, Nat.add_one_le_iff] at hc2 hz2 hB2
  have hz20 : w.heap.size < w2.heap.size := by omega
  go_wp2_with fail
  refine (stay (set_any _ _ _ _ _ _ _) (Nat.le_refl _)).mono ?_
  rintro e w3 ⟨rfl, hc3, hz3, hB3⟩
  simp only [World.size_alloc, Nat.add_one_le_iff] at hc3 hz3 hB3
  have hz30 : w.heap.size < w3.heap.size := by omega
  have hz31 : w1.heap.size < w3.heap.size := by omega
  go_wp2_with (first | (go_at_call 12; refine (stay (G := w3.heap.size) (least_any _ _ _ _ _ _) (by first | assumption | simp)).mono ?_; rintro e w4 ⟨rfl, hc4, hz4, hB4⟩; have : w.heap.size < w4.heap.size := (by omega); have : w1.heap.size < w4.heap.size := (by omega)) | (go_at_call 14; refine (stay (G := w3.heap.size) (late_any _ _ _ _ _ _ _) (by first | assumption | simp)).mono ?_; rintro e w4 ⟨rfl, hc4, hz4, hB4⟩; have : w.heap.size < w4.heap.size := (by omega); have : w1.heap.size < w4.heap.size := (by omega)) | (go_at_call 10; refine (stay (G := w3.heap.size) (right_any _ _ _ _ _) (by first | assumption | simp)).mono ?_; rintro e w4 ⟨rfl, hc4, hz4, hB4⟩; have : w.heap.size < w4.heap.size := (by omega); have : w1.heap.size < w4.heap.size := (by omega)) | (go_at_call 16; (with_reducible refine (stay (G := w3.heap.size) (floor_c1 _) (by first | assumption | simp)).mono ?_); rintro e w4 ⟨rfl, hc4, hz4, hB4⟩; have : w.heap.size < w4.heap.size := (by omega); have : w1.heap.size < w4.heap.size := (by omega)) | (go_at_call 16; (with_reducible refine (stay (G := w3.heap.size) (floor_c2 _) (by first | assumption | simp)).mono ?_); rintro e w4 ⟨rfl, hc4, hz4, hB4⟩; have : w.heap.size < w4.heap.size := (by omega); have : w1.heap.size < w4.heap.size := (by omega)))
  go_ret
  refine ⟨rfl, ?_⟩
  repeat (first | exact Below.refl _ _ | refine Below.trans ?_ (Below.mono (Hid.out ‹Hid (Below _ _ _)›) (by omega)) | refine Below.alloc ?_ (by omega) _)
end Go.Proofs.Ytffabippjhipbaa
