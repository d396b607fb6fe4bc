/- The law MarksLate: its walk. -/
import Derived.Test.YtffabippjhipbaaMarksT
import Derived.Test.YtffabippjhipbaaLibQ
namespace Go.Proofs.Ytffabippjhipbaa
open Go.RowKit Go.Shelf
attribute [local go_sem] grown_cell grown_frozen

theorem set_up (a b c d src ts x y z u : Int) (hx : (if setOk a b c d src ts then setV a b c d src ts else mar a b c d) = mar x y z u) : a ≤ x ∧ b ≤ y ∧ c ≤ z ∧ d ≤ u := by
  by_cases h : setOk a b c d src ts = true
  · rw [if_pos h] at hx
    simp only [setOk, decide_eq_true_eq] at h
    obtain ⟨h0, h1, h2, h3, h4⟩ := h
    have hc : src = 0 ∨ src = 1 ∨ src = 2 ∨ src = 3 := by omega
    rcases hc with rfl | rfl | rfl | rfl <;> simp [setV, get4] at hx h4 <;> omega
  · rw [if_neg h] at hx
    simp at hx
    omega
theorem late_up {a b c d x y z u src ts : Int} (h : a ≤ x ∧ b ≤ y ∧ c ≤ z ∧ d ≤ u) (hl : lateF a b c d src ts = true) : lateF x y z u src ts = true := by
  have hl' := of_decide_eq_true hl
  refine decide_eq_true ?_
  simp only [get4] at *
  obtain ⟨h0, h1, h2⟩ := hl'
  refine ⟨h0, h1, ?_⟩
  repeat' split at h2
  all_goals simp [*]
  all_goals omega

/-- How the second mark's test comes out, with what the call of Set answers. -/
def OkAs (a b c d src ts : Int) : Prop :=
  (src < 0 ∧ setOk a b c d src ts = false) ∨ (0 ≤ src ∧ 4 ≤ src ∧ setOk a b c d src ts = false) ∨ (0 ≤ src ∧ src < 4 ∧ ts < 0 ∧ setOk a b c d src ts = false) ∨
  (0 ≤ src ∧ src < 4 ∧ 0 ≤ ts ∧ 1099511627776 < ts ∧ setOk a b c d src ts = false) ∨ (0 ≤ src ∧ src < 4 ∧ 0 ≤ ts ∧ ts ≤ 1099511627776 ∧ lateF a b c d src ts = true ∧ setOk a b c d src ts = false) ∨
  (0 ≤ src ∧ src < 4 ∧ 0 ≤ ts ∧ ts ≤ 1099511627776 ∧ lateF a b c d src ts = false ∧ setOk a b c d src ts = true)
theorem okAs (a b c d src ts : Int) : OkAs a b c d src ts := by
  unfold OkAs
  simp only [setOk, lateF, decide_eq_true_eq, decide_eq_false_iff_not]
  omega

set_option maxRecDepth 100000 in
set_option maxHeartbeats 4000000 in
theorem marksLate_walk (a b c d src ts other to_ : Int) (w : World) :
    Calls Try.prog 6 #[mar a b c d, .int .i64 src, .int .i64 ts, .int .i64 other, .int .i64 to_] w fun e w' => e = .returned (.bool true) ∧ Below w.heap.size w w' := by
  obtain ⟨x, y, z, u, hx⟩ := set_ex a b c d other to_
  have hup := set_up _ _ _ _ _ _ _ _ _ _ hx
  obtain ⟨x', y', z', u', hx'⟩ := set_ex a b c d src ts
  have HS : ∀ w, Calls Try.prog 8 #[mar a b c d, .int .i64 other, .int .i64 to_] w fun e w' => e = .returned (.tuple #[mar x y z u, .bool (setOk a b c d other to_)]) ∧ Below w.heap.size w w' := fun w => hx ▸ set_any a b c d other to_ w
  have HR : ∀ w, Calls Try.prog 8 #[mar a b c d, .int .i64 src, .int .i64 ts] w fun e w' => e = .returned (.tuple #[mar x' y' z' u', .bool (setOk a b c d src ts)]) ∧ Below w.heap.size w w' := fun w => hx' ▸ set_any a b c d src ts w
  have hs := hide HS
  have hr := hide HR
  have hlu : lateF a b c d src ts = true → lateF x y z u src ts = true := late_up hup
  have hok := okAs a b c d src ts
  clear hx HS HR hup hx'
  generalize setOk a b c d other to_ = ok1 at *
  unfold OkAs at hok
  rcases hok with ⟨q1, q2⟩ | ⟨q0, q1, q2⟩ | ⟨q0, q1, q2, q3⟩ | ⟨q0, q1, q2, q3, q4⟩ | ⟨q0, q1, q2, q3, hL, q5⟩ | ⟨q0, q1, q2, q3, hL, q5⟩
  · cases hL : lateF a b c d src ts
    · clear hlu
      go_enter Try.func6, Try.ntmps6
      go_wp2_with fail
      refine (stay (hs.out _) (Nat.le_refl _)).mono ?_
      rintro e w1 ⟨rfl, hc1, hz1, hB1⟩
      simp only [World.size_alloc, Nat.add_one_le_iff] at hc1 hz1 hB1
      have hz1' : w.heap.size < w1.heap.size + 1 := by omega
      go_wp2_with (first | (go_at_call 14; ((with_reducible refine (stay (G := w1.heap.size + 1) (late_any _ _ _ _ _ _ _) (by first | assumption | (simp; done) | (simp; omega))).mono ?_); rintro e w4 ⟨rfl, hc4, hz4, hB4⟩; have : w.heap.size < w4.heap.size := (by omega))) | (go_at_call 8; ((with_reducible refine (stay (G := w1.heap.size + 1) (hr.out _) (by first | assumption | (simp; done) | (simp; omega))).mono ?_); rintro e w4 ⟨rfl, hc4, hz4, hB4⟩; have : w.heap.size < w4.heap.size := (by omega))) | (go_at_call 18; ((with_reducible refine (stay (G := w1.heap.size + 1) (wakes_true _) (by first | assumption | (simp; done) | (simp; omega))).mono ?_); rintro e w4 ⟨rfl, hc4, hz4, hB4⟩; have : w.heap.size < w4.heap.size := (by omega))))
      go_ret
      refine ⟨rfl, ?_⟩
      repeat (first | exact Below.refl _ _ | refine Below.trans ?_ (Below.mono (Hid.out ‹Hid (Below _ _ _)›) (by omega)) | refine Below.alloc ?_ (by omega) _)
    · have hlu' := hlu hL
      clear hlu
      go_enter Try.func6, Try.ntmps6
      go_wp2_with fail
      refine (stay (hs.out _) (Nat.le_refl _)).mono ?_
      rintro e w1 ⟨rfl, hc1, hz1, hB1⟩
      simp only [World.size_alloc, Nat.add_one_le_iff] at hc1 hz1 hB1
      have hz1' : w.heap.size < w1.heap.size + 1 := by omega
      go_wp2_with (first | (go_at_call 14; ((with_reducible refine (stay (G := w1.heap.size + 1) (late_any _ _ _ _ _ _ _) (by first | assumption | (simp; done) | (simp; omega))).mono ?_); rintro e w4 ⟨rfl, hc4, hz4, hB4⟩; have : w.heap.size < w4.heap.size := (by omega))) | (go_at_call 8; ((with_reducible refine (stay (G := w1.heap.size + 1) (hr.out _) (by first | assumption | (simp; done) | (simp; omega))).mono ?_); rintro e w4 ⟨rfl, hc4, hz4, hB4⟩; have : w.heap.size < w4.heap.size := (by omega))) | (go_at_call 18; ((with_reducible refine (stay (G := w1.heap.size + 1) (wakes_true _) (by first | assumption | (simp; done) | (simp; omega))).mono ?_); rintro e w4 ⟨rfl, hc4, hz4, hB4⟩; have : w.heap.size < w4.heap.size := (by omega))))
      go_ret
      refine ⟨rfl, ?_⟩
      repeat (first | exact Below.refl _ _ | refine Below.trans ?_ (Below.mono (Hid.out ‹Hid (Below _ _ _)›) (by omega)) | refine Below.alloc ?_ (by omega) _)
  · cases hL : lateF a b c d src ts
    · clear hlu
      go_enter Try.func6, Try.ntmps6
      go_wp2_with fail
      refine (stay (hs.out _) (Nat.le_refl _)).mono ?_
      rintro e w1 ⟨rfl, hc1, hz1, hB1⟩
      simp only [World.size_alloc, Nat.add_one_le_iff] at hc1 hz1 hB1
      have hz1' : w.heap.size < w1.heap.size + 1 := by omega
      go_wp2_with (first | (go_at_call 14; ((with_reducible refine (stay (G := w1.heap.size + 1) (late_any _ _ _ _ _ _ _) (by first | assumption | (simp; done) | (simp; omega))).mono ?_); rintro e w4 ⟨rfl, hc4, hz4, hB4⟩; have : w.heap.size < w4.heap.size := (by omega))) | (go_at_call 8; ((with_reducible refine (stay (G := w1.heap.size + 1) (hr.out _) (by first | assumption | (simp; done) | (simp; omega))).mono ?_); rintro e w4 ⟨rfl, hc4, hz4, hB4⟩; have : w.heap.size < w4.heap.size := (by omega))) | (go_at_call 18; ((with_reducible refine (stay (G := w1.heap.size + 1) (wakes_true _) (by first | assumption | (simp; done) | (simp; omega))).mono ?_); rintro e w4 ⟨rfl, hc4, hz4, hB4⟩; have : w.heap.size < w4.heap.size := (by omega))))
      go_ret
      refine ⟨rfl, ?_⟩
      repeat (first | exact Below.refl _ _ | refine Below.trans ?_ (Below.mono (Hid.out ‹Hid (Below _ _ _)›) (by omega)) | refine Below.alloc ?_ (by omega) _)
    · have hlu' := hlu hL
      clear hlu
      go_enter Try.func6, Try.ntmps6
      go_wp2_with fail
      refine (stay (hs.out _) (Nat.le_refl _)).mono ?_
      rintro e w1 ⟨rfl, hc1, hz1, hB1⟩
      simp only [World.size_alloc, Nat.add_one_le_iff] at hc1 hz1 hB1
      have hz1' : w.heap.size < w1.heap.size + 1 := by omega
      go_wp2_with (first | (go_at_call 14; ((with_reducible refine (stay (G := w1.heap.size + 1) (late_any _ _ _ _ _ _ _) (by first | assumption | (simp; done) | (simp; omega))).mono ?_); rintro e w4 ⟨rfl, hc4, hz4, hB4⟩; have : w.heap.size < w4.heap.size := (by omega))) | (go_at_call 8; ((with_reducible refine (stay (G := w1.heap.size + 1) (hr.out _) (by first | assumption | (simp; done) | (simp; omega))).mono ?_); rintro e w4 ⟨rfl, hc4, hz4, hB4⟩; have : w.heap.size < w4.heap.size := (by omega))) | (go_at_call 18; ((with_reducible refine (stay (G := w1.heap.size + 1) (wakes_true _) (by first | assumption | (simp; done) | (simp; omega))).mono ?_); rintro e w4 ⟨rfl, hc4, hz4, hB4⟩; have : w.heap.size < w4.heap.size := (by omega))))
      go_ret
      refine ⟨rfl, ?_⟩
      repeat (first | exact Below.refl _ _ | refine Below.trans ?_ (Below.mono (Hid.out ‹Hid (Below _ _ _)›) (by omega)) | refine Below.alloc ?_ (by omega) _)
  · cases hL : lateF a b c d src ts
    · clear hlu
      go_enter Try.func6, Try.ntmps6
      go_wp2_with fail
      refine (stay (hs.out _) (Nat.le_refl _)).mono ?_
      rintro e w1 ⟨rfl, hc1, hz1, hB1⟩
      simp only [World.size_alloc, Nat.add_one_le_iff] at hc1 hz1 hB1
      have hz1' : w.heap.size < w1.heap.size + 1 := by omega
      go_wp2_with (first | (go_at_call 14; ((with_reducible refine (stay (G := w1.heap.size + 1) (late_any _ _ _ _ _ _ _) (by first | assumption | (simp; done) | (simp; omega))).mono ?_); rintro e w4 ⟨rfl, hc4, hz4, hB4⟩; have : w.heap.size < w4.heap.size := (by omega))) | (go_at_call 8; ((with_reducible refine (stay (G := w1.heap.size + 1) (hr.out _) (by first | assumption | (simp; done) | (simp; omega))).mono ?_); rintro e w4 ⟨rfl, hc4, hz4, hB4⟩; have : w.heap.size < w4.heap.size := (by omega))) | (go_at_call 18; ((with_reducible refine (stay (G := w1.heap.size + 1) (wakes_true _) (by first | assumption | (simp; done) | (simp; omega))).mono ?_); rintro e w4 ⟨rfl, hc4, hz4, hB4⟩; have : w.heap.size < w4.heap.size := (by omega))))
      go_ret
      refine ⟨rfl, ?_⟩
      repeat (first | exact Below.refl _ _ | refine Below.trans ?_ (Below.mono (Hid.out ‹Hid (Below _ _ _)›) (by omega)) | refine Below.alloc ?_ (by omega) _)
    · have hlu' := hlu hL
      clear hlu
      go_enter Try.func6, Try.ntmps6
      go_wp2_with fail
      refine (stay (hs.out _) (Nat.le_refl _)).mono ?_
      rintro e w1 ⟨rfl, hc1, hz1, hB1⟩
      simp only [World.size_alloc, Nat.add_one_le_iff] at hc1 hz1 hB1
      have hz1' : w.heap.size < w1.heap.size + 1 := by omega
      go_wp2_with (first | (go_at_call 14; ((with_reducible refine (stay (G := w1.heap.size + 1) (late_any _ _ _ _ _ _ _) (by first | assumption | (simp; done) | (simp; omega))).mono ?_); rintro e w4 ⟨rfl, hc4, hz4, hB4⟩; have : w.heap.size < w4.heap.size := (by omega))) | (go_at_call 8; ((with_reducible refine (stay (G := w1.heap.size + 1) (hr.out _) (by first | assumption | (simp; done) | (simp; omega))).mono ?_); rintro e w4 ⟨rfl, hc4, hz4, hB4⟩; have : w.heap.size < w4.heap.size := (by omega))) | (go_at_call 18; ((with_reducible refine (stay (G := w1.heap.size + 1) (wakes_true _) (by first | assumption | (simp; done) | (simp; omega))).mono ?_); rintro e w4 ⟨rfl, hc4, hz4, hB4⟩; have : w.heap.size < w4.heap.size := (by omega))))
      go_ret
      refine ⟨rfl, ?_⟩
      repeat (first | exact Below.refl _ _ | refine Below.trans ?_ (Below.mono (Hid.out ‹Hid (Below _ _ _)›) (by omega)) | refine Below.alloc ?_ (by omega) _)
  · cases hL : lateF a b c d src ts
    · clear hlu
      go_enter Try.func6, Try.ntmps6
      go_wp2_with fail
      refine (stay (hs.out _) (Nat.le_refl _)).mono ?_
      rintro e w1 ⟨rfl, hc1, hz1, hB1⟩
      simp only [World.size_alloc, Nat.add_one_le_iff] at hc1 hz1 hB1
      have hz1' : w.heap.size < w1.heap.size + 1 := by omega
      go_wp2_with (first | (go_at_call 14; ((with_reducible refine (stay (G := w1.heap.size + 1) (late_any _ _ _ _ _ _ _) (by first | assumption | (simp; done) | (simp; omega))).mono ?_); rintro e w4 ⟨rfl, hc4, hz4, hB4⟩; have : w.heap.size < w4.heap.size := (by omega))) | (go_at_call 8; ((with_reducible refine (stay (G := w1.heap.size + 1) (hr.out _) (by first | assumption | (simp; done) | (simp; omega))).mono ?_); rintro e w4 ⟨rfl, hc4, hz4, hB4⟩; have : w.heap.size < w4.heap.size := (by omega))) | (go_at_call 18; ((with_reducible refine (stay (G := w1.heap.size + 1) (wakes_true _) (by first | assumption | (simp; done) | (simp; omega))).mono ?_); rintro e w4 ⟨rfl, hc4, hz4, hB4⟩; have : w.heap.size < w4.heap.size := (by omega))))
      go_ret
      refine ⟨rfl, ?_⟩
      repeat (first | exact Below.refl _ _ | refine Below.trans ?_ (Below.mono (Hid.out ‹Hid (Below _ _ _)›) (by omega)) | refine Below.alloc ?_ (by omega) _)
    · have hlu' := hlu hL
      clear hlu
      go_enter Try.func6, Try.ntmps6
      go_wp2_with fail
      refine (stay (hs.out _) (Nat.le_refl _)).mono ?_
      rintro e w1 ⟨rfl, hc1, hz1, hB1⟩
      simp only [World.size_alloc, Nat.add_one_le_iff] at hc1 hz1 hB1
      have hz1' : w.heap.size < w1.heap.size + 1 := by omega
      go_wp2_with (first | (go_at_call 14; ((with_reducible refine (stay (G := w1.heap.size + 1) (late_any _ _ _ _ _ _ _) (by first | assumption | (simp; done) | (simp; omega))).mono ?_); rintro e w4 ⟨rfl, hc4, hz4, hB4⟩; have : w.heap.size < w4.heap.size := (by omega))) | (go_at_call 8; ((with_reducible refine (stay (G := w1.heap.size + 1) (hr.out _) (by first | assumption | (simp; done) | (simp; omega))).mono ?_); rintro e w4 ⟨rfl, hc4, hz4, hB4⟩; have : w.heap.size < w4.heap.size := (by omega))) | (go_at_call 18; ((with_reducible refine (stay (G := w1.heap.size + 1) (wakes_true _) (by first | assumption | (simp; done) | (simp; omega))).mono ?_); rintro e w4 ⟨rfl, hc4, hz4, hB4⟩; have : w.heap.size < w4.heap.size := (by omega))))
      go_ret
      refine ⟨rfl, ?_⟩
      repeat (first | exact Below.refl _ _ | refine Below.trans ?_ (Below.mono (Hid.out ‹Hid (Below _ _ _)›) (by omega)) | refine Below.alloc ?_ (by omega) _)
  · have hlu' := hlu hL
    clear hlu
    go_enter Try.func6, Try.ntmps6
    go_wp2_with fail
    refine (stay (hs.out _) (Nat.le_refl _)).mono ?_
    rintro e w1 ⟨rfl, hc1, hz1, hB1⟩
    simp only [World.size_alloc, Nat.add_one_le_iff] at hc1 hz1 hB1
    have hz1' : w.heap.size < w1.heap.size + 1 := by omega
    go_wp2_with (first | (go_at_call 14; ((with_reducible refine (stay (G := w1.heap.size + 1) (late_any _ _ _ _ _ _ _) (by first | assumption | (simp; done) | (simp; omega))).mono ?_); rintro e w4 ⟨rfl, hc4, hz4, hB4⟩; have : w.heap.size < w4.heap.size := (by omega))) | (go_at_call 8; ((with_reducible refine (stay (G := w1.heap.size + 1) (hr.out _) (by first | assumption | (simp; done) | (simp; omega))).mono ?_); rintro e w4 ⟨rfl, hc4, hz4, hB4⟩; have : w.heap.size < w4.heap.size := (by omega))) | (go_at_call 18; ((with_reducible refine (stay (G := w1.heap.size + 1) (wakes_true _) (by first | assumption | (simp; done) | (simp; omega))).mono ?_); rintro e w4 ⟨rfl, hc4, hz4, hB4⟩; have : w.heap.size < w4.heap.size := (by omega))))
    go_ret
    refine ⟨rfl, ?_⟩
    repeat (first | exact Below.refl _ _ | refine Below.trans ?_ (Below.mono (Hid.out ‹Hid (Below _ _ _)›) (by omega)) | refine Below.alloc ?_ (by omega) _)
  · clear hlu
    go_enter Try.func6, Try.ntmps6
    go_wp2_with fail
    refine (stay (hs.out _) (Nat.le_refl _)).mono ?_
    rintro e w1 ⟨rfl, hc1, hz1, hB1⟩
    simp only [World.size_alloc, Nat.add_one_le_iff] at hc1 hz1 hB1
    have hz1' : w.heap.size < w1.heap.size + 1 := by omega
    go_wp2_with (first | (go_at_call 14; ((with_reducible refine (stay (G := w1.heap.size + 1) (late_any _ _ _ _ _ _ _) (by first | assumption | (simp; done) | (simp; omega))).mono ?_); rintro e w4 ⟨rfl, hc4, hz4, hB4⟩; have : w.heap.size < w4.heap.size := (by omega))) | (go_at_call 8; ((with_reducible refine (stay (G := w1.heap.size + 1) (hr.out _) (by first | assumption | (simp; done) | (simp; omega))).mono ?_); rintro e w4 ⟨rfl, hc4, hz4, hB4⟩; have : w.heap.size < w4.heap.size := (by omega))) | (go_at_call 18; ((with_reducible refine (stay (G := w1.heap.size + 1) (wakes_true _) (by first | assumption | (simp; done) | (simp; omega))).mono ?_); rintro e w4 ⟨rfl, hc4, hz4, hB4⟩; have : w.heap.size < w4.heap.size := (by omega))))
    go_ret
    refine ⟨rfl, ?_⟩
    repeat (first | exact Below.refl _ _ | refine Below.trans ?_ (Below.mono (Hid.out ‹Hid (Below _ _ _)›) (by omega)) | refine Below.alloc ?_ (by omega) _)
end Go.Proofs.Ytffabippjhipbaa
