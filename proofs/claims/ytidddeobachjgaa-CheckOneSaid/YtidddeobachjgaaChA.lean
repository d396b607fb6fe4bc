/- The rules of the layer of checks, one by one: the walks. -/
import Derived.Test.YtidddeobachjgaaTrE
import Derived.Test.YtidddeobachjgaaPlS
import Derived.Test.YtidddeobachjgaaLibI
namespace Go.Proofs.Ytidddeobachjgaa
open Go.RowKit

theorem whole_any (b : Bool) (w : World) : Calls Try.prog 70 #[.bool b] w fun e w' => e = .returned (.int .i64 (whole b)) ∧ w = w' := by
  cases b
  all_goals
    go_enter Try.func70, Try.ntmps70
    go_wp2
    go_ret
    exact ⟨rfl, rfl⟩

theorem rule3_any (i : Int) (s : Sp) (cv : Value) (w : World) :
    Calls Try.prog 72 #[.int .i64 i, spV s cv] w fun e w' => e = .returned (.bool (decide (s.kind < 6))) ∧ Below w.heap.size w w' := by
  go_enter Try.func72, Try.ntmps72
  go_wp2
  go_ret
  exact ⟨rfl, (Below.refl _ _).alloc (Nat.le_refl _) _⟩

set_option maxHeartbeats 1000000 in
theorem rule5_any (i : Int) (s : Sp) (cv : Value) (w : World) :
    Calls Try.prog 74 #[.int .i64 i, spV s cv] w fun e w' => e = .returned (.bool (s.neg || decide (0 < s.min ∧ s.min ≤ s.max ∧ s.max ≤ 3))) ∧ Below w.heap.size w w' := by
  obtain ⟨neg, kind, mn, mx, strict, cmps⟩ := s
  cases neg
  · by_cases h1 : 0 < mn
    · by_cases h2 : mn ≤ mx
      · go_enter Try.func74, Try.ntmps74
        go_wp2
        go_ret
        exact ⟨ret_bool (by simp [h1, h2]), (Below.refl _ _).alloc (Nat.le_refl _) _⟩
      · go_enter Try.func74, Try.ntmps74
        go_wp2
        go_ret
        exact ⟨ret_bool (by simp; omega), (Below.refl _ _).alloc (Nat.le_refl _) _⟩
    · go_enter Try.func74, Try.ntmps74
      go_wp2
      go_ret
      exact ⟨ret_bool (by simp; omega), (Below.refl _ _).alloc (Nat.le_refl _) _⟩
  · go_enter Try.func74, Try.ntmps74
    go_wp2
    go_ret
    exact ⟨rfl, (Below.refl _ _).alloc (Nat.le_refl _) _⟩

theorem rule1_any (n : Nat) (win : Int) (A : Option Addr) (cap B : Nat) (w : World) (h0 : w.cell? ⟨B, 0, none⟩ = some (.slice A n cap)) (h1 : w.cell? ⟨B, 1, none⟩ = some (.int .i64 win)) :
    Calls Try.prog 69 #[.pointer (some ⟨B, 0, none⟩)] w fun e w' => e = .returned (.int .i64 (whole (decide (n ≤ 6 ∧ win ≤ 1073741824)))) ∧ w = w' := by
  have hw := hide whole_any
  by_cases hn : n ≤ 6
  · have hv : decide (n ≤ 6 ∧ win ≤ 1073741824) = decide (win ≤ 1073741824) := by simp [hn]
    rw [hv]; clear hv
    have hw := hide (hw.out (decide (win ≤ 1073741824)))
    have hn' : (n : Int) ≤ 6 := by omega
    go_enter Try.func69, Try.ntmps69
    go_wp2_with (go_at_call 70; (with_reducible refine (hw.out _).mono ?_); rintro e w1 ⟨rfl, rfl⟩)
    go_ret
    exact ⟨rfl, rfl⟩
  · have hv : decide (n ≤ 6 ∧ win ≤ 1073741824) = false := by simp [hn]
    rw [hv]; clear hv
    have hw := hide (hw.out false)
    have hn' : ¬ ((n : Int) ≤ 6) := by omega
    go_enter Try.func69, Try.ntmps69
    go_wp2_with (go_at_call 70; (with_reducible refine (hw.out _).mono ?_); rintro e w1 ⟨rfl, rfl⟩)
    go_ret
    exact ⟨rfl, rfl⟩

theorem rule6_any (n : Int) (B : Nat) (w : World) (h0 : w.cell? ⟨B, 0, none⟩ = some (.int .i64 n)) :
    Calls Try.prog 75 #[.pointer (some ⟨B, 0, none⟩)] w fun e w' => e = .returned (.int .i64 (whole (decide (n ≤ 4)))) ∧ w = w' := by
  have hw := hide (whole_any (decide (n ≤ 4)))
  go_enter Try.func75, Try.ntmps75
  go_wp2_with (go_at_call 70; (with_reducible refine (hw.out _).mono ?_); rintro e w1 ⟨rfl, rfl⟩)
  go_ret
  exact ⟨rfl, rfl⟩

/-- The box of a pattern. -/
structure PBox (w : World) (B : Nat) (p : List Sp) (win : Int) : Prop where
  box : ∃ sv, Blk w B 24 #[sv, .int .i64 win] ∧ RdS w w.heap.size sv p
theorem PBox.below {w w' : World} {B n : Nat} {p : List Sp} {win : Int} (h : PBox w B p win) (hb : Below n w w') (hn : w.heap.size ≤ n) : PBox w' B p win := by
  obtain ⟨sv, h1, h2⟩ := h.box
  exact ⟨sv, h1.below hb (by have := h1.lt; omega), h2.below (hb.mono hn) hb.size⟩

set_option maxHeartbeats 1000000 in
theorem rule2_any (p : List Sp) (win : Int) (B : Nat) (w : World) (h : PBox w B p win) (h0 : 0 < p.length) :
    Calls Try.prog 71 #[.pointer (some ⟨B, 0, none⟩)] w fun e w' => e = .returned (.int .i64 (whole (rule2 p))) ∧ w = w' := by
  obtain ⟨sv, hb, A, cap, b, off, rfl, h2, h3, h4, h5⟩ := h.box
  obtain ⟨rfl, hlt⟩ := h4 h0
  have hx := List.getElem?_eq_getElem h0
  obtain ⟨cs, ⟨cv, rfl, hcv⟩, hat⟩ := h5 0 p[0] hx
  obtain ⟨c0, c1, c2, c3, c4, c5⟩ := hat.c6
  have e0 : w.cell? ⟨B, 0, none⟩ = some (.slice (some ⟨b, off, none⟩) p.length cap) := hb.cell 0
  have hst : stepAt p 0 = p[0] := by simp [stepAt, hx]
  have hr : rule2 p = (!p[0].neg && !p[0].strict) := by simp [rule2, hst]
  rw [hr]
  clear hr hst hcv hat h5 hb hx
  simp only [Nat.zero_mul, Nat.add_zero] at c0 c1 c2 c3 c4 c5
  have h0' : (0 : Int) < p.length := by omega
  have hw := hide whole_any
  generalize p[0] = s at *
  obtain ⟨neg, kind, mn, mx, strict, cmps⟩ := s
  simp only at c0 c1 c2 c3 c4 c5
  cases neg
  · have hw := hide (hw.out (!strict))
    go_enter Try.func71, Try.ntmps71
    go_wp2_with (go_at_call 70; (with_reducible refine (hw.out _).mono ?_); rintro e w1 ⟨rfl, rfl⟩)
    go_ret
    exact ⟨rfl, rfl⟩
  · have hw := hide (hw.out false)
    go_enter Try.func71, Try.ntmps71
    go_wp2_with (go_at_call 70; (with_reducible refine (hw.out _).mono ?_); rintro e w1 ⟨rfl, rfl⟩)
    go_ret
    exact ⟨rfl, rfl⟩
end Go.Proofs.Ytidddeobachjgaa
