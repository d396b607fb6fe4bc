/- The law MarksFloor: its walk. -/
import Derived.Test.YtffabippjhipbaaMarksLa
namespace Go.Proofs.Ytffabippjhipbaa
open Go.RowKit Go.Shelf
attribute [local go_sem] grown_cell grown_frozen

theorem least_up {a b c d x y z u : Int} (s : Int) (h : a ≤ x ∧ b ≤ y ∧ c ≤ z ∧ d ≤ u) : leastF a b c d s ≤ leastF x y z u s := by
  unfold leastF
  repeat' split
  all_goals omega
theorem floor_up {a b c d x y z u : Int} (s win : Int) (h : a ≤ x ∧ b ≤ y ∧ c ≤ z ∧ d ≤ u) (ha : In64 (leastF a b c d s)) (hx : In64 (leastF x y z u s)) (hw : In64 win) : floorF a b c d s win ≤ floorF x y z u s win := by
  have := least_up s h
  unfold floorF
  unfold In64 at *
  repeat' split
  all_goals omega
theorem set_in {a b c d src ts x y z u : Int} (hx : (if setOk a b c d src ts then setV a b c d src ts else mar a b c d) = mar x y z u) (ha : In64 a) (hb : In64 b) (hc : In64 c) (hd : In64 d) : In64 x ∧ In64 y ∧ In64 z ∧ In64 u := by
  by_cases h : setOk a b c d src ts = true
  · rw [if_pos h] at hx
    simp only [setOk, decide_eq_true_eq] at h
    obtain ⟨h0, h1, h2, h3, h4⟩ := h
    have ht : In64 ts := ⟨by omega, by omega⟩
    have hc : src = 0 ∨ src = 1 ∨ src = 2 ∨ src = 3 := by omega
    rcases hc with rfl | rfl | rfl | rfl <;> simp [setV] at hx <;> obtain ⟨rfl, rfl, rfl, rfl⟩ := hx <;> exact ⟨‹_›, ‹_›, ‹_›, ‹_›⟩
  · rw [if_neg h] at hx
    simp at hx
    obtain ⟨rfl, rfl, rfl, rfl⟩ := hx
    exact ⟨ha, hb, hc, hd⟩
/-- How a floor f stands to the least mark l and the window. -/
theorem floor_as (a b c d s win : Int) (hl : In64 (leastF a b c d s)) (hw : In64 win) :
    (0 ≤ win ∧ floorF a b c d s win ≤ leastF a b c d s ∧ leastF a b c d s - floorF a b c d s win = win) ∨ (0 ≤ win ∧ floorF a b c d s win = -9223372036854775808) ∨
    (win < 0 ∧ leastF a b c d s ≤ floorF a b c d s win ∧ leastF a b c d s - floorF a b c d s win = win) ∨ (win < 0 ∧ floorF a b c d s win = 9223372036854775807) := by
  unfold floorF
  unfold In64 at *
  repeat' split
  all_goals omega

set_option maxRecDepth 100000 in
set_option maxHeartbeats 4000000 in
theorem marksFloor_walk (a b c d s win src ts : Int) (ha : In64 a) (hb : In64 b) (hc : In64 c) (hd : In64 d) (hw : In64 win) (w : World) :
    Calls Try.prog 7 #[mar a b c d, .int .i64 s, .int .i64 win, .int .i64 src, .int .i64 ts] w fun e w' => e = .returned (.bool true) ∧ Below w.heap.size w w' := by
  obtain ⟨x, y, z, u, hx⟩ := set_ex a b c d src ts
  have hup := set_up _ _ _ _ _ _ _ _ _ _ hx
  obtain ⟨i1, i2, i3, i4⟩ := set_in hx ha hb hc hd
  have hla := leastF_in a b c d s ha hb hc hd
  have hfu := floor_up s win hup hla (leastF_in x y z u s i1 i2 i3 i4) hw
  have hfa := floor_as a b c d s win hla hw
  have HS : ∀ w, Calls Try.prog 8 #[mar a b c d, .int .i64 src, .int .i64 ts] w fun e w' => e = .returned (.tuple #[mar x y z u, .bool (setOk a b c d src ts)]) ∧ Below w.heap.size w w' := fun w => hx ▸ set_any a b c d src ts w
  have HF : ∀ w, Calls Try.prog 16 #[mar a b c d, .int .i64 s, .int .i64 win] w fun e w' => e = .returned (.int .i64 (floorF a b c d s win)) ∧ Below w.heap.size w w' := fun w => floor_any a b c d s win w ha hb hc hd hw
  have HG : ∀ w, Calls Try.prog 16 #[mar x y z u, .int .i64 s, .int .i64 win] w fun e w' => e = .returned (.int .i64 (floorF x y z u s win)) ∧ Below w.heap.size w w' := fun w => floor_any x y z u s win w i1 i2 i3 i4 hw
  have HL : ∀ w, Calls Try.prog 12 #[mar a b c d, .int .i64 s] w fun e w' => e = .returned (.int .i64 (leastF a b c d s)) ∧ Below w.heap.size w w' := fun w => least_any a b c d s w
  clear hx hup i1 i2 i3 i4 ha hb hc hd
  generalize leastF a b c d s = l at *
  generalize floorF a b c d s win = f at *
  generalize floorF x y z u s win = f2 at *
  generalize setOk a b c d src ts = ok at *
  have hs := hide HS
  have hf := hide HF
  have hg := hide HG
  have hl := hide HL
  clear HS HF HG HL
  obtain ⟨w1, w2⟩ := hw
  obtain ⟨l1, l2⟩ := hla
  rcases hfa with ⟨q0, q1, q2⟩ | ⟨q0, rfl⟩ | ⟨q0, q1, q2⟩ | ⟨q0, rfl⟩
  all_goals
    go_enter Try.func7, Try.ntmps7
    go_wp2
    refine wp_region_grown (w.heap.size + 1) (by simp) (by kernel_rfl) (by kernel_rfl) ?_
    repeat (any_goals (first | go_big_quiet_step ((first | (go_at_call 16; exact calls_grown (by simp) hf.out) | (go_at_call 12; exact calls_grown (by simp) hl.out))) | quiet_step ((first | (go_at_call 16; exact calls_grown (by simp) hf.out) | (go_at_call 12; exact calls_grown (by simp) hl.out)))))
    refine wpQuiet_nil ?_
    intro _ hw'
    obtain ⟨nq, hw''⟩ := hw'
    subst hw''
    have hB := grown_below (w.heap.size + 1) (w.alloc (.cells #[.int .i64 a, .int .i64 b, .int .i64 c, .int .i64 d] 22)) nq
    have hz := grown_size (w.heap.size + 1) (w.alloc (.cells #[.int .i64 a, .int .i64 b, .int .i64 c, .int .i64 d] 22)) nq (by simp)
    generalize grown (w.heap.size + 1) (w.alloc (.cells #[.int .i64 a, .int .i64 b, .int .i64 c, .int .i64 d] 22)) nq = W1 at *
    have b0 : Blk W1 w.heap.size 22 #[.int .i64 a, .int .i64 b, .int .i64 c, .int .i64 d] := (Blk.new _ _ _).below hB (by omega)
    have HB := hide (((Below.refl _ _).alloc (Nat.le_refl _) _).trans (hB.mono (by omega)) : Below w.heap.size w W1)
    obtain ⟨c0, c1, c2, c3⟩ := b0.c4
    clear b0 hB
    go_wp2_with (first | (go_at_call 16; ((with_reducible refine (stay (G := w.heap.size + 1) (hg.out _) (by first | assumption | (simp; done) | (simp; omega))).mono ?_); rintro e w4 ⟨rfl, hc4, hz4, hB4⟩)) | (go_at_call 8; ((with_reducible refine (stay (G := w.heap.size + 1) (hs.out _) (by first | assumption | (simp; done) | (simp; omega))).mono ?_); rintro e w4 ⟨rfl, hc4, hz4, hB4⟩)) | (go_at_call 18; ((with_reducible refine (stay (G := w.heap.size + 1) (wakes_true _) (by first | assumption | (simp; done) | (simp; omega))).mono ?_); rintro e w4 ⟨rfl, hc4, hz4, hB4⟩)))
    all_goals go_ret
    all_goals refine ⟨rfl, ?_⟩
    all_goals (repeat (first | exact Below.refl _ _ | refine Below.trans ?_ (Below.mono (Hid.out ‹Hid (Below _ _ _)›) (by omega)) | refine Below.alloc ?_ (by omega) _))
end Go.Proofs.Ytffabippjhipbaa
