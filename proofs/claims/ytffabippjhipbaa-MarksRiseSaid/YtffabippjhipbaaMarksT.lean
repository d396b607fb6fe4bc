/- The law MarksTells: its walk. -/
import Derived.Test.YtffabippjhipbaaMarksL
import Derived.Deep.RegionHeld3
namespace Go.Proofs.Ytffabippjhipbaa
open Go.RowKit Go.Shelf

theorem set_ex (a b c d src ts : Int) : ∃ x y z u, (if setOk a b c d src ts then setV a b c d src ts else mar a b c d) = mar x y z u := by
  unfold setV
  repeat' split
  all_goals exact ⟨_, _, _, _, rfl⟩

set_option maxRecDepth 100000 in
set_option maxHeartbeats 4000000 in
theorem marksTells_walk (a b c d sources src ts window : Int) (ha : In64 a) (hb : In64 b) (hc : In64 c) (hd : In64 d) (hw : In64 window) (w : World) :
    Calls Try.prog 3 #[mar a b c d, .int .i64 sources, .int .i64 src, .int .i64 ts, .int .i64 window] w fun e w' => e = .returned (.bool true) ∧ Below w.heap.size w w' := by
  obtain ⟨x, y, z, u, hx⟩ := set_ex a b c d src ts
  have HS : ∀ w, Calls Try.prog 8 #[mar a b c d, .int .i64 src, .int .i64 ts] w fun e w' => e = .returned (.tuple #[mar x y z u, .bool (setOk a b c d src ts)]) ∧ Below w.heap.size w w' := fun w => hx ▸ set_any a b c d src ts w
  have HR : ∀ w, Calls Try.prog 9 #[mar a b c d, .int .i64 src, .int .i64 ts] w fun e w' => e = .returned (.tuple #[mar x y z u, .bool (setOk a b c d src ts)]) ∧ Below w.heap.size w w' := fun w => hx ▸ rset_any a b c d src ts w
  have HF : ∀ w, Calls Try.prog 16 #[mar a b c d, .int .i64 sources, .int .i64 window] w fun e w' => e = .returned (.int .i64 (floorF a b c d sources window)) ∧ Below w.heap.size w w' := fun w => floor_any a b c d sources window w ha hb hc hd hw
  have HG : ∀ w, Calls Try.prog 17 #[mar a b c d, .int .i64 sources, .int .i64 window] w fun e w' => e = .returned (.int .i64 (floorF a b c d sources window)) ∧ Below w.heap.size w w' := fun w => rfloor_any a b c d sources window w ha hb hc hd hw
  have hs := hide HS
  have hr := hide HR
  have hf := hide HF
  have hg := hide HG
  have he := eq_arr4
  clear hx HS HR HF HG ha hb hc hd hw
  go_enter Try.func3, Try.ntmps3
  go_wp2_with fail
  refine (stay (hs.out _) (Nat.le_refl _)).mono ?_
  rintro e w1 ⟨rfl, hc1, hz1, hB1⟩
  simp only [World.size_alloc, Nat.add_one_le_iff] at hc1 hz1 hB1
  go_wp2_with fail
  refine (stay (hr.out _) (Nat.le_refl _)).mono ?_
  rintro e w2 ⟨rfl, hc2, hz2, hB2⟩
  simp only [World.size_alloc, Nat.add_one_le_iff] at hc2 hz2 hB2
  have hz20 : w.heap.size < w2.heap.size := by omega
  go_wp2
  obtain ⟨W, hW⟩ : ∃ W, w2.alloc (.cells #[.int .i64 x, .int .i64 y, .int .i64 z, .int .i64 u] 22) = W := ⟨_, rfl⟩
  rw [hW]
  have b0 : Blk W w.heap.size 22 #[.int .i64 a, .int .i64 b, .int .i64 c, .int .i64 d] := by
    rw [← hW]
    exact (((((Blk.new _ _ _).below hB1.out (by simp)).alloc _).below hB2.out (by omega)).alloc _)
  have b1 : Blk W w1.heap.size 22 #[.int .i64 x, .int .i64 y, .int .i64 z, .int .i64 u] := by
    rw [← hW]
    exact ((Blk.new _ _ _).below hB2.out (by simp)).alloc _
  have b2 : Blk W w2.heap.size 22 #[.int .i64 x, .int .i64 y, .int .i64 z, .int .i64 u] := by
    rw [← hW]
    exact Blk.new _ _ _
  have hB : Below w.heap.size w W := by
    rw [← hW]
    refine Below.alloc (Below.trans (Below.alloc (Below.trans (Below.alloc (Below.refl _ _) (Nat.le_refl _) _) (hB1.out.mono (by omega))) (by omega) _) (hB2.out.mono (by omega))) (by omega) _
  have hz : w2.heap.size + 1 ≤ W.heap.size := by rw [← hW]; simp
  have HB := hide hB
  clear hB hW hB1 hB2 hc1 hc2
  obtain ⟨c00, c01, c02, c03⟩ := b0.c4
  obtain ⟨c10, c11, c12, c13⟩ := b1.c4
  obtain ⟨c20, c21, c22, c23⟩ := b2.c4
  clear b0 b1 b2
  generalize w1.heap.size = g1 at *
  generalize w2.heap.size = g2 at *
  obtain ⟨G, hG0, hG1, hG2, hG⟩ : ∃ G, w.heap.size < G ∧ g1 < G ∧ g2 < G ∧ G ≤ W.heap.size := ⟨g2 + 1, by omega, by omega, by omega, hz⟩
  clear hz
  go_region_held3 (fun w' => w'.cell? ⟨w.heap.size, 0, none⟩ = some (.int .i64 a) ∧ w'.cell? ⟨w.heap.size, 1, none⟩ = some (.int .i64 b) ∧ w'.cell? ⟨w.heap.size, 2, none⟩ = some (.int .i64 c) ∧ w'.cell? ⟨w.heap.size, 3, none⟩ = some (.int .i64 d) ∧ w'.cell? ⟨g1, 0, none⟩ = some (.int .i64 x) ∧ w'.cell? ⟨g1, 1, none⟩ = some (.int .i64 y) ∧ w'.cell? ⟨g1, 2, none⟩ = some (.int .i64 z) ∧ w'.cell? ⟨g1, 3, none⟩ = some (.int .i64 u) ∧ w'.cell? ⟨g2, 0, none⟩ = some (.int .i64 x) ∧ w'.cell? ⟨g2, 1, none⟩ = some (.int .i64 y) ∧ w'.cell? ⟨g2, 2, none⟩ = some (.int .i64 z) ∧ w'.cell? ⟨g2, 3, none⟩ = some (.int .i64 u) ∧ G ≤ w'.heap.size ∧ Hid (Below (G) W w')) (first | exact ⟨by simp [*], by simp [*], by simp [*], by simp [*], by simp [*], by simp [*], by simp [*], by simp [*], by simp [*], by simp [*], by simp [*], by simp [*], by simp [*], hid_drew _ _⟩ | exact ⟨by simp [*], by simp [*], by simp [*], by simp [*], by simp [*], by simp [*], by simp [*], by simp [*], by simp [*], by simp [*], by simp [*], by simp [*], by assumption, (by refine hid_trans ?_ (by assumption); simp [*])⟩)
    (first | (go_at_call 10; ((with_reducible refine (stay (G := G) (right_any _ _ _ _ _) ?_).mono ?_); (first | assumption | simp); rintro e w4 ⟨rfl, hc4, hz4, hB4⟩)) | (go_at_call 11; ((with_reducible refine (stay (G := G) (rright_any _ _ _ _ _) ?_).mono ?_); (first | assumption | simp); rintro e w4 ⟨rfl, hc4, hz4, hB4⟩)) | (go_at_call 12; ((with_reducible refine (stay (G := G) (least_any _ _ _ _ _ _) ?_).mono ?_); (first | assumption | simp); rintro e w4 ⟨rfl, hc4, hz4, hB4⟩)) | (go_at_call 13; ((with_reducible refine (stay (G := G) (rleast_any _ _ _ _ _ _) ?_).mono ?_); (first | assumption | simp); rintro e w4 ⟨rfl, hc4, hz4, hB4⟩)) | (go_at_call 14; ((with_reducible refine (stay (G := G) (late_any _ _ _ _ _ _ _) ?_).mono ?_); (first | assumption | simp); rintro e w4 ⟨rfl, hc4, hz4, hB4⟩)) | (go_at_call 15; ((with_reducible refine (stay (G := G) (rlate_any _ _ _ _ _ _ _) ?_).mono ?_); (first | assumption | simp); rintro e w4 ⟨rfl, hc4, hz4, hB4⟩)) | (go_at_call 16; ((with_reducible refine (stay (G := G) (hf.out _) ?_).mono ?_); (first | assumption | simp); rintro e w4 ⟨rfl, hc4, hz4, hB4⟩)) | (go_at_call 17; ((with_reducible refine (stay (G := G) (hg.out _) ?_).mono ?_); (first | assumption | simp); rintro e w4 ⟨rfl, hc4, hz4, hB4⟩)) | (go_at_call 18; ((with_reducible refine (stay (G := G) (wakes_true _) ?_).mono ?_); (first | assumption | simp); rintro e w4 ⟨rfl, hc4, hz4, hB4⟩)))
  go_wp2
  go_ret
  refine ⟨rfl, HB.out.trans (Below.mono ?_ (Nat.le_of_lt hG0))⟩
  exact Hid.out (by simp [*])
end Go.Proofs.Ytffabippjhipbaa
