/- What the small tests of the layer of trees tell: numbers, terms, comparisons. -/
import Derived.Test.YtidddeobachjgaaLibP
import Derived.Laws.StructEq
namespace Go.Proofs.Ytidddeobachjgaa
open Go.RowKit

theorem ret_bool {a b : Bool} (h : a = b) : Ending.returned (.bool a) = .returned (.bool b) := by rw [h]
theorem ret_int {k : IntKind} {a b : Int} (h : a = b) : Ending.returned (.int k a) = .returned (.int k b) := by rw [h]

theorem number_any (n : Int) (w : World) : Calls Try.prog 41 #[.int .i64 n] w fun e w' => e = .returned (.bool (numB n)) ∧ w = w' := by
  by_cases h : 0 ≤ n
  · go_enter Try.func41, Try.ntmps41
    go_wp2
    go_ret
    exact ⟨ret_bool (by simp [numB, h]), rfl⟩
  · go_enter Try.func41, Try.ntmps41
    go_wp2
    go_ret
    exact ⟨ret_bool (by simp [numB]; omega), rfl⟩
theorem rnumber_any (n : Int) (w : World) : Calls Try.prog 37 #[.int .i64 n] w fun e w' => e = .returned (.bool (numB n)) ∧ w = w' := by
  by_cases h : 0 ≤ n
  · go_enter Try.func37, Try.ntmps37
    go_wp2
    go_ret
    exact ⟨ret_bool (by simp [numB, h]), rfl⟩
  · go_enter Try.func37, Try.ntmps37
    go_wp2
    go_ret
    exact ⟨ret_bool (by simp [numB]; omega), rfl⟩

theorem two_any (k n s r : Int) (w : World) : Calls Try.prog 63 #[.agg #[.int .u8 k, .int .i64 n, .int .i64 s, .int .i64 r]] w fun e w' => e = .returned (.bool (Tm.two ⟨k, n, s, r⟩)) ∧ Below w.heap.size w w' := by
  by_cases h : k = 5
  · subst h
    go_enter Try.func63, Try.ntmps63
    go_wp2
    go_ret
    exact ⟨rfl, (Below.refl _ _).alloc (Nat.le_refl _) _⟩
  · have h' : (k == 5) = false := by simpa using h
    go_enter Try.func63, Try.ntmps63
    go_wp2
    go_ret
    exact ⟨ret_bool (by by_cases h6 : k = 6 <;> simp [Tm.two, h, h6]), (Below.refl _ _).alloc (Nat.le_refl _) _⟩

theorem eq_tm (a0 a1 a2 a3 b0 b1 b2 b3 : Int) (w : World) :
    (Op.equalIn 10000 34 (.agg #[.int .u8 a0, .int .i64 a1, .int .i64 a2, .int .i64 a3]) (.agg #[.int .u8 b0, .int .i64 b1, .int .i64 b2, .int .i64 b3])).run Try.prog w = .ok (decide (a0 = b0 ∧ a1 = b1 ∧ a2 = b2 ∧ a3 = b3)) w := by
  have u1 := Try.underlying5
  have u3 := Try.underlying3
  have g1 := Try.isAgg5
  have g3 := Try.isAgg3
  have z1 := Try.sizeOf5
  have z3 := Try.sizeOf3
  have hS : Try.prog.underlying 34 = some (.struct (Try.prog.fieldsOf 34)) := by kernel_rfl
  have hp : Try.prog.stoodInHeld 34 = false := by kernel_rfl
  rw [show (10000 : Nat) = 9999 + 1 from rfl, run_equalIn_struct w 9999 34 _ _ hS hp]
  simp only [Program.fieldsOf, Try.underlying34]
  go_simp
  by_cases h1 : a0 = b0 <;> by_cases h2 : a1 = b1 <;> by_cases h3 : a2 = b2 <;> by_cases h4 : a3 = b3 <;> simp [h1, h2, h3, h4]

theorem eq_cm (a0 a1 a2 a3 a4 a5 a6 a7 a8 b0 b1 b2 b3 b4 b5 b6 b7 b8 : Int) (w : World) :
    (Op.equalIn 10000 36 (.agg #[.int .u8 a0, .int .u8 a1, .int .i64 a2, .int .i64 a3, .int .i64 a4, .int .u8 a5, .int .i64 a6, .int .i64 a7, .int .i64 a8])
      (.agg #[.int .u8 b0, .int .u8 b1, .int .i64 b2, .int .i64 b3, .int .i64 b4, .int .u8 b5, .int .i64 b6, .int .i64 b7, .int .i64 b8])).run Try.prog w =
      .ok (decide (a0 = b0 ∧ (a1 = b1 ∧ a2 = b2 ∧ a3 = b3 ∧ a4 = b4) ∧ (a5 = b5 ∧ a6 = b6 ∧ a7 = b7 ∧ a8 = b8))) w := by
  have u1 := Try.underlying5
  have u3 := Try.underlying3
  have g1 := Try.isAgg5
  have g3 := Try.isAgg3
  have gT := Try.isAgg34
  have z1 := Try.sizeOf5
  have z3 := Try.sizeOf3
  have zT := Try.sizeOf34
  have hS : Try.prog.underlying 36 = some (.struct (Try.prog.fieldsOf 36)) := by kernel_rfl
  have hp : Try.prog.stoodInHeld 36 = false := by kernel_rfl
  rw [show (10000 : Nat) = 9999 + 1 from rfl, run_equalIn_struct w 9999 36 _ _ hS hp]
  simp only [Program.fieldsOf, Try.underlying36]
  have hS2 : Try.prog.underlying 34 = some (.struct (Try.prog.fieldsOf 34)) := by kernel_rfl
  have hp2 : Try.prog.stoodInHeld 34 = false := by kernel_rfl
  have hT : ∀ (x0 x1 x2 x3 y0 y1 y2 y3 : Int) (w : World), (Op.equalIn 9999 34 (.agg #[.int .u8 x0, .int .i64 x1, .int .i64 x2, .int .i64 x3]) (.agg #[.int .u8 y0, .int .i64 y1, .int .i64 y2, .int .i64 y3])).run Try.prog w = .ok (decide (x0 = y0 ∧ x1 = y1 ∧ x2 = y2 ∧ x3 = y3)) w := by
    intro x0 x1 x2 x3 y0 y1 y2 y3 w
    rw [show (9999 : Nat) = 9998 + 1 from rfl, run_equalIn_struct w 9998 34 _ _ hS2 hp2]
    simp only [Program.fieldsOf, Try.underlying34]
    go_simp
    by_cases h1 : x0 = y0 <;> by_cases h2 : x1 = y1 <;> by_cases h3 : x2 = y2 <;> by_cases h4 : x3 = y3 <;> simp [h1, h2, h3, h4]
  generalize hb : decide (a0 = b0 ∧ (a1 = b1 ∧ a2 = b2 ∧ a3 = b3 ∧ a4 = b4) ∧ (a5 = b5 ∧ a6 = b6 ∧ a7 = b7 ∧ a8 = b8)) = bb
  go_simp
  subst hb
  by_cases h0 : a0 = b0
  · by_cases hA : a1 = b1 ∧ a2 = b2 ∧ a3 = b3 ∧ a4 = b4
    · by_cases hB : a5 = b5 ∧ a6 = b6 ∧ a7 = b7 ∧ a8 = b8
      · simp [h0, hA, hB]
      · simp only [h0, hA, hB, and_false, decide_false, if_true]
        simpa using hB
    · simp only [h0, hA, false_and, and_false, decide_false, if_true]
      simp
      intro p1 p2 p3 p4
      exact absurd ⟨p1, p2, p3, p4⟩ hA
  · simp [h0]

set_option maxHeartbeats 2000000 in
theorem term_any (k n s r : Int) (w : World) : Calls Try.prog 60 #[.agg #[.int .u8 k, .int .i64 n, .int .i64 s, .int .i64 r]] w fun e w' => e = .returned (.bool (Tm.ok ⟨k, n, s, r⟩)) ∧ Below w.heap.size w w' := by
  by_cases h1 : n < -1099511627776
  · have hf : Tm.ok ⟨k, n, s, r⟩ = false := by simp [Tm.ok]; omega
    rw [hf]; clear hf
    go_enter Try.func60, Try.ntmps60
    go_wp2
    refine wp_scope_fwd 0 rfl ?_
    go_wp2
    all_goals (try (refine wp_goto ⟨rfl, ?_⟩; go_wp2))
    all_goals (first | refine ret_noGoto ?_ | refine ret_jump ?_ | skip)
    all_goals (show bodyPost _ _ _ _ _ _)
    all_goals go_ret
    all_goals exact ⟨rfl, ((Below.refl _ _).alloc (Nat.le_refl _) _).alloc (by simp) _⟩
  replace h1 := Int.not_lt.1 h1
  by_cases h2 : 1099511627776 < n
  · have hf : Tm.ok ⟨k, n, s, r⟩ = false := by simp [Tm.ok]; omega
    rw [hf]; clear hf
    go_enter Try.func60, Try.ntmps60
    go_wp2
    refine wp_scope_fwd 0 rfl ?_
    go_wp2
    all_goals (try (refine wp_goto ⟨rfl, ?_⟩; go_wp2))
    all_goals (first | refine ret_noGoto ?_ | refine ret_jump ?_ | skip)
    all_goals (show bodyPost _ _ _ _ _ _)
    all_goals go_ret
    all_goals exact ⟨rfl, ((Below.refl _ _).alloc (Nat.le_refl _) _).alloc (by simp) _⟩
  replace h2 := Int.not_lt.1 h2
  by_cases h3 : 7 ≤ k
  · have hf : Tm.ok ⟨k, n, s, r⟩ = false := by simp [Tm.ok]; omega
    rw [hf]; clear hf
    go_enter Try.func60, Try.ntmps60
    go_wp2
    refine wp_scope_fwd 0 rfl ?_
    go_wp2
    all_goals (try (refine wp_goto ⟨rfl, ?_⟩; go_wp2))
    all_goals (first | refine ret_noGoto ?_ | refine ret_jump ?_ | skip)
    all_goals (show bodyPost _ _ _ _ _ _)
    all_goals go_ret
    all_goals exact ⟨rfl, ((Below.refl _ _).alloc (Nat.le_refl _) _).alloc (by simp) _⟩
  replace h3 := Int.not_le.1 h3
  by_cases h4 : s < 0
  · have hf : Tm.ok ⟨k, n, s, r⟩ = false := by simp [Tm.ok]; omega
    rw [hf]; clear hf
    go_enter Try.func60, Try.ntmps60
    go_wp2
    refine wp_scope_fwd 0 rfl ?_
    go_wp2
    all_goals (try (refine wp_goto ⟨rfl, ?_⟩; go_wp2))
    all_goals (first | refine ret_noGoto ?_ | refine ret_jump ?_ | skip)
    all_goals (show bodyPost _ _ _ _ _ _)
    all_goals go_ret
    all_goals exact ⟨rfl, ((Below.refl _ _).alloc (Nat.le_refl _) _).alloc (by simp) _⟩
  replace h4 := Int.not_lt.1 h4
  by_cases h5 : 26 ≤ s
  · have hf : Tm.ok ⟨k, n, s, r⟩ = false := by simp [Tm.ok]; omega
    rw [hf]; clear hf
    go_enter Try.func60, Try.ntmps60
    go_wp2
    refine wp_scope_fwd 0 rfl ?_
    go_wp2
    all_goals (try (refine wp_goto ⟨rfl, ?_⟩; go_wp2))
    all_goals (first | refine ret_noGoto ?_ | refine ret_jump ?_ | skip)
    all_goals (show bodyPost _ _ _ _ _ _)
    all_goals go_ret
    all_goals exact ⟨rfl, ((Below.refl _ _).alloc (Nat.le_refl _) _).alloc (by simp) _⟩
  replace h5 := Int.not_le.1 h5
  by_cases h6 : r < 0
  · have hf : Tm.ok ⟨k, n, s, r⟩ = false := by simp [Tm.ok]; omega
    rw [hf]; clear hf
    go_enter Try.func60, Try.ntmps60
    go_wp2
    refine wp_scope_fwd 0 rfl ?_
    go_wp2
    all_goals (try (refine wp_goto ⟨rfl, ?_⟩; go_wp2))
    all_goals (first | refine ret_noGoto ?_ | refine ret_jump ?_ | skip)
    all_goals (show bodyPost _ _ _ _ _ _)
    all_goals go_ret
    all_goals exact ⟨rfl, ((Below.refl _ _).alloc (Nat.le_refl _) _).alloc (by simp) _⟩
  replace h6 := Int.not_lt.1 h6
  by_cases h7 : 26 ≤ r
  · have hf : Tm.ok ⟨k, n, s, r⟩ = false := by simp [Tm.ok]; omega
    rw [hf]; clear hf
    go_enter Try.func60, Try.ntmps60
    go_wp2
    refine wp_scope_fwd 0 rfl ?_
    go_wp2
    all_goals (try (refine wp_goto ⟨rfl, ?_⟩; go_wp2))
    all_goals (first | refine ret_noGoto ?_ | refine ret_jump ?_ | skip)
    all_goals (show bodyPost _ _ _ _ _ _)
    all_goals go_ret
    all_goals exact ⟨rfl, ((Below.refl _ _).alloc (Nat.le_refl _) _).alloc (by simp) _⟩
  replace h7 := Int.not_le.1 h7
  have heq := eq_tm
  by_cases hk : k = 0
  · subst hk
    go_enter Try.func60, Try.ntmps60
    go_wp2
    go_step3
    go_wp2_with (go_at_call 63; refine (stayf (G := w.heap.size + 2) (two_any _ _ _ _ _) (by simp)).mono ?_; rintro e w1 ⟨rfl, hc1, hf1, hz1, hB1⟩)
    refine ret_noGoto ?_
    show bodyPost _ _ _ _ _ _
    go_ret
    refine ⟨ret_bool (by simp [Tm.ok, *]; try omega), ?_⟩
    repeat (first | exact Below.refl _ _ | refine Below.trans ?_ (Below.mono (Hid.out ‹Hid (Below _ _ _)›) (by first | omega | (simp; omega))) | refine Below.setCell ?_ (by first | omega | (simp; done) | (simp; omega)) _ | refine Below.alloc ?_ (by first | omega | (simp; done) | (simp; omega)) _ | refine Below.drew ?_)
  have hk' : (k == 0) = false := by simpa using hk
  by_cases h5 : k = 5
  · subst h5
    clear hk hk'
    have ht := two_any 5 n s r
    rw [show Tm.two ⟨5, n, s, r⟩ = true from rfl] at ht
    go_enter Try.func60, Try.ntmps60
    go_wp2
    go_step3
    go_wp2_with (go_at_call 63; refine (stayf (G := w.heap.size + 2) (ht _) (by simp)).mono ?_; rintro e w1 ⟨rfl, hc1, hf1, hz1, hB1⟩)
    refine ret_noGoto ?_
    show bodyPost _ _ _ _ _ _
    go_ret
    refine ⟨ret_bool (by simp [Tm.ok, *]; try omega), ?_⟩
    repeat (first | exact Below.refl _ _ | refine Below.trans ?_ (Below.mono (Hid.out ‹Hid (Below _ _ _)›) (by first | omega | (simp; omega))) | refine Below.setCell ?_ (by first | omega | (simp; done) | (simp; omega)) _ | refine Below.alloc ?_ (by first | omega | (simp; done) | (simp; omega)) _ | refine Below.drew ?_)
  by_cases h6 : k = 6
  · subst h6
    clear hk hk' h5
    have ht := two_any 6 n s r
    rw [show Tm.two ⟨6, n, s, r⟩ = true from rfl] at ht
    go_enter Try.func60, Try.ntmps60
    go_wp2
    go_step3
    go_wp2_with (go_at_call 63; refine (stayf (G := w.heap.size + 2) (ht _) (by simp)).mono ?_; rintro e w1 ⟨rfl, hc1, hf1, hz1, hB1⟩)
    refine ret_noGoto ?_
    show bodyPost _ _ _ _ _ _
    go_ret
    refine ⟨ret_bool (by simp [Tm.ok, *]; try omega), ?_⟩
    repeat (first | exact Below.refl _ _ | refine Below.trans ?_ (Below.mono (Hid.out ‹Hid (Below _ _ _)›) (by first | omega | (simp; omega))) | refine Below.setCell ?_ (by first | omega | (simp; done) | (simp; omega)) _ | refine Below.alloc ?_ (by first | omega | (simp; done) | (simp; omega)) _ | refine Below.drew ?_)
  have ht := two_any k n s r
  rw [show Tm.two ⟨k, n, s, r⟩ = false by simp [Tm.two, h5, h6]] at ht
  · skip
    go_enter Try.func60, Try.ntmps60
    go_wp2
    go_step3
    go_wp2_with (go_at_call 63; refine (stayf (G := w.heap.size + 2) (ht _) (by simp)).mono ?_; rintro e w1 ⟨rfl, hc1, hf1, hz1, hB1⟩)
    refine ret_noGoto ?_
    show bodyPost _ _ _ _ _ _
    go_ret
    refine ⟨ret_bool (by simp [Tm.ok, *]; try omega), ?_⟩
    repeat (first | exact Below.refl _ _ | refine Below.trans ?_ (Below.mono (Hid.out ‹Hid (Below _ _ _)›) (by first | omega | (simp; omega))) | refine Below.setCell ?_ (by first | omega | (simp; done) | (simp; omega)) _ | refine Below.alloc ?_ (by first | omega | (simp; done) | (simp; omega)) _ | refine Below.drew ?_)
end Go.Proofs.Ytidddeobachjgaa
