/- The law MarksLeast: its walk. -/
import Derived.Test.YtffabippjhipbaaMarksL
import Derived.Test.YtffabippjhipbaaLibQ
namespace Go.Proofs.Ytffabippjhipbaa
open Go.RowKit Go.Shelf
attribute [local go_sem] grown_cell grown_frozen

def isTo (a b c d l : Int) : Nat → Bool
  | 0 => false
  | j + 1 => isTo a b c d l j || (get4 a b c d j == l)
theorem isTo_end (a b c d sources : Int) (k : Nat) (hk : max 1 (min sources 4) = (k : Int)) : isTo a b c d (leastF a b c d sources) k = true := by
  have h : (sources ≤ 1 ∧ k = 1) ∨ (sources = 2 ∧ k = 2) ∨ (sources = 3 ∧ k = 3) ∨ (4 ≤ sources ∧ k = 4) := by omega
  rcases h with ⟨h, rfl⟩ | ⟨rfl, rfl⟩ | ⟨rfl, rfl⟩ | ⟨h, rfl⟩
  · simp [isTo, leastF, get4, h]
  · simp [isTo, leastF, get4]; omega
  · simp [isTo, leastF, get4]; omega
  · have h1 : ¬ sources ≤ 1 := by omega
    have h2 : ¬ sources = 2 := by omega
    have h3 : ¬ sources = 3 := by omega
    simp [isTo, leastF, get4, h1, h2, h3]; omega
theorem least_le (a b c d sources : Int) (k j : Nat) (hk : max 1 (min sources 4) = (k : Int)) (hj : j < k) : leastF a b c d sources ≤ get4 a b c d j := by
  have h : (sources ≤ 1 ∧ k = 1) ∨ (sources = 2 ∧ k = 2) ∨ (sources = 3 ∧ k = 3) ∨ (4 ≤ sources ∧ k = 4) := by omega
  have hj4 : j = 0 ∨ j = 1 ∨ j = 2 ∨ j = 3 := by omega
  simp only [leastF]
  rcases hj4 with rfl | rfl | rfl | rfl <;> simp [get4] <;> (repeat' split) <;> omega
theorem least_next (a b c d sources : Int) (k : Nat) (hk : max 1 (min sources 4) = (k : Int)) (h4 : k < 4) : leastF a b c d ((k : Int) + 1) = min (leastF a b c d sources) (get4 a b c d k) := by
  have h : (sources ≤ 1 ∧ k = 1) ∨ (sources = 2 ∧ k = 2) ∨ (sources = 3 ∧ k = 3) := by omega
  rcases h with ⟨h, rfl⟩ | ⟨rfl, rfl⟩ | ⟨rfl, rfl⟩
  · simp [leastF, get4, h]
  · simp [leastF, get4]
  · simp [leastF, get4]

set_option maxRecDepth 100000 in
set_option maxHeartbeats 4000000 in
theorem marksLeast_walk (a b c d sources : Int) (w : World) :
    Calls Try.prog 5 #[mar a b c d, .int .i64 sources] w fun e w' => e = .returned (.bool true) ∧ Below w.heap.size w w' := by
  obtain ⟨k, hk⟩ : ∃ k : Nat, max 1 (min sources 4) = (k : Int) := ⟨(max 1 (min sources 4)).toNat, by omega⟩
  have hcase : (sources < 1 ∧ k = 1) ∨ (sources = 1 ∧ k = 1) ∨ (sources = 2 ∧ k = 2) ∨ (sources = 3 ∧ k = 3) ∨ (sources = 4 ∧ k = 4) ∨ (4 < sources ∧ k = 4) := by omega
  have HE := hide (isTo_end a b c d sources k hk)
  have HL := hide (fun j => least_le a b c d sources k j hk)
  have HN := hide (least_next a b c d sources k hk)
  clear hk
  generalize hm : leastF a b c d sources = m at *
  have HM : ∀ w, Calls Try.prog 12 #[mar a b c d, .int .i64 sources] w fun e w' => e = .returned (.int .i64 m) ∧ Below w.heap.size w w' := fun w => hm ▸ least_any a b c d sources w
  have hM := hide HM
  clear hm HM
  rcases hcase with ⟨h, rfl⟩ | ⟨rfl, rfl⟩ | ⟨rfl, rfl⟩ | ⟨rfl, rfl⟩ | ⟨rfl, rfl⟩ | ⟨h, rfl⟩
  · go_enter Try.func5, Try.ntmps5
    go_wp2_with fail
    refine (hM.out _).mono ?_
    rintro e w1 ⟨rfl, hB1⟩
    have b0 : Blk w1 w.heap.size 22 #[.int .i64 a, .int .i64 b, .int .i64 c, .int .i64 d] := (Blk.new _ _ _).below hB1 (by simp)
    have hB : Below w.heap.size w w1 := ((Below.refl _ _).alloc (Nat.le_refl _) _).trans (hB1.mono (by simp))
    obtain ⟨c0, c1, c2, c3⟩ := b0.c4
    obtain ⟨G, hG0, hG⟩ : ∃ G, w.heap.size < G ∧ G ≤ w1.heap.size := ⟨w.heap.size + 1, by omega, b0.lt⟩
    have HB := hide hB
    clear hB hB1 b0
    go_wp2_with fail
    go_loop [7, 8] (fun s i => ∃ j : Nat, j ≤ 1 ∧ i = .int .i64 j ∧ s = .bool (isTo a b c d m j)) (fun _ i => 1 - (intOf i).toNat)
    case atStart => exact ⟨0, by omega, rfl, rfl⟩
    case round =>
      obtain ⟨j, hj, rfl, rfl⟩ := hrel
      have hj4 : j = 0 ∨ j = 1 := by omega
      clear hj
      rcases hj4 with rfl | rfl
      · have hle : m ≤ a := HL.out 0 (by omega)
        have HT := hide (show isTo a b c d m 1 = (isTo a b c d m 0 || (a == m)) from rfl)
        generalize isTo a b c d m 0 = t at *
        cases t
        · by_cases he : a = m
          · subst he
            go_wp2_with fail
            go_round
            case rel => exact ⟨1, by omega, by go_num, by rw [HT.out]; simp⟩
            case measure => simp [intOf]
          · have hb : (a == m) = false := by simp [he]
            go_wp2_with fail
            go_round
            case rel => exact ⟨1, by omega, by go_num, by rw [HT.out, hb]; rfl⟩
            case measure => simp [intOf]
        · go_wp2_with fail
          go_round
          case rel => exact ⟨1, by omega, by go_num, by rw [HT.out]; rfl⟩
          case measure => simp [intOf]
      · have hN := HN.out (by omega)
        have HT := HE.out
        generalize isTo a b c d m 1 = t at *
        subst HT
        generalize hl : leastF a b c d ((1 : Nat) + 1 : Int) = l at *
        have HX : ∀ w, Calls Try.prog 12 #[mar a b c d, .int .i64 2] w fun e w' => e = .returned (.int .i64 l) ∧ Below w.heap.size w w' := fun w => hl ▸ least_any a b c d 2 w
        have hX := hide HX
        clear hl HX
        have hN' : l = min m b := hN
        clear hN
        have hwr : IntKind.i64.wrap 2 = 2 := rfl
        by_cases hx : b < m
        · obtain rfl : b = l := by omega
          clear hN'
          go_wp2
          refine wp_region_grown G hG (by kernel_rfl) (by kernel_rfl) ?_
          repeat (any_goals (first | go_big_quiet_step ((first | (go_at_call 12; exact calls_grown hG hX.out) | (go_at_call 18; exact calls_grown hG wakes_true))) | quiet_step ((first | (go_at_call 12; exact calls_grown hG hX.out) | (go_at_call 18; exact calls_grown hG wakes_true)))))
          all_goals (refine wpQuiet_nil ?_; intro _ hw'; obtain ⟨nq, hw''⟩ := hw'; subst hw'')
          all_goals go_wp2
          all_goals go_ret
          all_goals exact ⟨rfl, HB.out.trans ((grown_below _ _ _).mono (Nat.le_of_lt hG0))⟩
        · obtain rfl : m = l := by omega
          clear hN'
          go_wp2
          refine wp_region_grown G hG (by kernel_rfl) (by kernel_rfl) ?_
          repeat (any_goals (first | go_big_quiet_step ((first | (go_at_call 12; exact calls_grown hG hX.out) | (go_at_call 18; exact calls_grown hG wakes_true))) | quiet_step ((first | (go_at_call 12; exact calls_grown hG hX.out) | (go_at_call 18; exact calls_grown hG wakes_true)))))
          all_goals (refine wpQuiet_nil ?_; intro _ hw'; obtain ⟨nq, hw''⟩ := hw'; subst hw'')
          all_goals go_wp2
          all_goals go_ret
          all_goals exact ⟨rfl, HB.out.trans ((grown_below _ _ _).mono (Nat.le_of_lt hG0))⟩
  · go_enter Try.func5, Try.ntmps5
    go_wp2_with fail
    refine (hM.out _).mono ?_
    rintro e w1 ⟨rfl, hB1⟩
    have b0 : Blk w1 w.heap.size 22 #[.int .i64 a, .int .i64 b, .int .i64 c, .int .i64 d] := (Blk.new _ _ _).below hB1 (by simp)
    have hB : Below w.heap.size w w1 := ((Below.refl _ _).alloc (Nat.le_refl _) _).trans (hB1.mono (by simp))
    obtain ⟨c0, c1, c2, c3⟩ := b0.c4
    obtain ⟨G, hG0, hG⟩ : ∃ G, w.heap.size < G ∧ G ≤ w1.heap.size := ⟨w.heap.size + 1, by omega, b0.lt⟩
    have HB := hide hB
    clear hB hB1 b0
    go_wp2_with fail
    go_loop [7, 8] (fun s i => ∃ j : Nat, j ≤ 1 ∧ i = .int .i64 j ∧ s = .bool (isTo a b c d m j)) (fun _ i => 1 - (intOf i).toNat)
    case atStart => exact ⟨0, by omega, rfl, rfl⟩
    case round =>
      obtain ⟨j, hj, rfl, rfl⟩ := hrel
      have hj4 : j = 0 ∨ j = 1 := by omega
      clear hj
      rcases hj4 with rfl | rfl
      · have hle : m ≤ a := HL.out 0 (by omega)
        have HT := hide (show isTo a b c d m 1 = (isTo a b c d m 0 || (a == m)) from rfl)
        generalize isTo a b c d m 0 = t at *
        cases t
        · by_cases he : a = m
          · subst he
            go_wp2_with fail
            go_round
            case rel => exact ⟨1, by omega, by go_num, by rw [HT.out]; simp⟩
            case measure => simp [intOf]
          · have hb : (a == m) = false := by simp [he]
            go_wp2_with fail
            go_round
            case rel => exact ⟨1, by omega, by go_num, by rw [HT.out, hb]; rfl⟩
            case measure => simp [intOf]
        · go_wp2_with fail
          go_round
          case rel => exact ⟨1, by omega, by go_num, by rw [HT.out]; rfl⟩
          case measure => simp [intOf]
      · have hN := HN.out (by omega)
        have HT := HE.out
        generalize isTo a b c d m 1 = t at *
        subst HT
        generalize hl : leastF a b c d ((1 : Nat) + 1 : Int) = l at *
        have HX : ∀ w, Calls Try.prog 12 #[mar a b c d, .int .i64 2] w fun e w' => e = .returned (.int .i64 l) ∧ Below w.heap.size w w' := fun w => hl ▸ least_any a b c d 2 w
        have hX := hide HX
        clear hl HX
        have hN' : l = min m b := hN
        clear hN
        have hwr : IntKind.i64.wrap 2 = 2 := rfl
        by_cases hx : b < m
        · obtain rfl : b = l := by omega
          clear hN'
          go_wp2
          refine wp_region_grown G hG (by kernel_rfl) (by kernel_rfl) ?_
          repeat (any_goals (first | go_big_quiet_step ((first | (go_at_call 12; exact calls_grown hG hX.out) | (go_at_call 18; exact calls_grown hG wakes_true))) | quiet_step ((first | (go_at_call 12; exact calls_grown hG hX.out) | (go_at_call 18; exact calls_grown hG wakes_true)))))
          all_goals (refine wpQuiet_nil ?_; intro _ hw'; obtain ⟨nq, hw''⟩ := hw'; subst hw'')
          all_goals go_wp2
          all_goals go_ret
          all_goals exact ⟨rfl, HB.out.trans ((grown_below _ _ _).mono (Nat.le_of_lt hG0))⟩
        · obtain rfl : m = l := by omega
          clear hN'
          go_wp2
          refine wp_region_grown G hG (by kernel_rfl) (by kernel_rfl) ?_
          repeat (any_goals (first | go_big_quiet_step ((first | (go_at_call 12; exact calls_grown hG hX.out) | (go_at_call 18; exact calls_grown hG wakes_true))) | quiet_step ((first | (go_at_call 12; exact calls_grown hG hX.out) | (go_at_call 18; exact calls_grown hG wakes_true)))))
          all_goals (refine wpQuiet_nil ?_; intro _ hw'; obtain ⟨nq, hw''⟩ := hw'; subst hw'')
          all_goals go_wp2
          all_goals go_ret
          all_goals exact ⟨rfl, HB.out.trans ((grown_below _ _ _).mono (Nat.le_of_lt hG0))⟩
  · go_enter Try.func5, Try.ntmps5
    go_wp2_with fail
    refine (hM.out _).mono ?_
    rintro e w1 ⟨rfl, hB1⟩
    have b0 : Blk w1 w.heap.size 22 #[.int .i64 a, .int .i64 b, .int .i64 c, .int .i64 d] := (Blk.new _ _ _).below hB1 (by simp)
    have hB : Below w.heap.size w w1 := ((Below.refl _ _).alloc (Nat.le_refl _) _).trans (hB1.mono (by simp))
    obtain ⟨c0, c1, c2, c3⟩ := b0.c4
    obtain ⟨G, hG0, hG⟩ : ∃ G, w.heap.size < G ∧ G ≤ w1.heap.size := ⟨w.heap.size + 1, by omega, b0.lt⟩
    have HB := hide hB
    clear hB hB1 b0
    go_wp2_with fail
    go_loop [7, 8] (fun s i => ∃ j : Nat, j ≤ 2 ∧ i = .int .i64 j ∧ s = .bool (isTo a b c d m j)) (fun _ i => 2 - (intOf i).toNat)
    case atStart => exact ⟨0, by omega, rfl, rfl⟩
    case round =>
      obtain ⟨j, hj, rfl, rfl⟩ := hrel
      have hj4 : j = 0 ∨ j = 1 ∨ j = 2 := by omega
      clear hj
      rcases hj4 with rfl | rfl | rfl
      · have hle : m ≤ a := HL.out 0 (by omega)
        have HT := hide (show isTo a b c d m 1 = (isTo a b c d m 0 || (a == m)) from rfl)
        generalize isTo a b c d m 0 = t at *
        cases t
        · by_cases he : a = m
          · subst he
            go_wp2_with fail
            go_round
            case rel => exact ⟨1, by omega, by go_num, by rw [HT.out]; simp⟩
            case measure => simp [intOf]
          · have hb : (a == m) = false := by simp [he]
            go_wp2_with fail
            go_round
            case rel => exact ⟨1, by omega, by go_num, by rw [HT.out, hb]; rfl⟩
            case measure => simp [intOf]
        · go_wp2_with fail
          go_round
          case rel => exact ⟨1, by omega, by go_num, by rw [HT.out]; rfl⟩
          case measure => simp [intOf]
      · have hle : m ≤ b := HL.out 1 (by omega)
        have HT := hide (show isTo a b c d m 2 = (isTo a b c d m 1 || (b == m)) from rfl)
        generalize isTo a b c d m 1 = t at *
        cases t
        · by_cases he : b = m
          · subst he
            go_wp2_with fail
            go_round
            case rel => exact ⟨2, by omega, by go_num, by rw [HT.out]; simp⟩
            case measure => simp [intOf]
          · have hb : (b == m) = false := by simp [he]
            go_wp2_with fail
            go_round
            case rel => exact ⟨2, by omega, by go_num, by rw [HT.out, hb]; rfl⟩
            case measure => simp [intOf]
        · go_wp2_with fail
          go_round
          case rel => exact ⟨2, by omega, by go_num, by rw [HT.out]; rfl⟩
          case measure => simp [intOf]
      · have hN := HN.out (by omega)
        have HT := HE.out
        generalize isTo a b c d m 2 = t at *
        subst HT
        generalize hl : leastF a b c d ((2 : Nat) + 1 : Int) = l at *
        have HX : ∀ w, Calls Try.prog 12 #[mar a b c d, .int .i64 3] w fun e w' => e = .returned (.int .i64 l) ∧ Below w.heap.size w w' := fun w => hl ▸ least_any a b c d 3 w
        have hX := hide HX
        clear hl HX
        have hN' : l = min m c := hN
        clear hN
        have hwr : IntKind.i64.wrap 3 = 3 := rfl
        by_cases hx : c < m
        · obtain rfl : c = l := by omega
          clear hN'
          go_wp2
          refine wp_region_grown G hG (by kernel_rfl) (by kernel_rfl) ?_
          repeat (any_goals (first | go_big_quiet_step ((first | (go_at_call 12; exact calls_grown hG hX.out) | (go_at_call 18; exact calls_grown hG wakes_true))) | quiet_step ((first | (go_at_call 12; exact calls_grown hG hX.out) | (go_at_call 18; exact calls_grown hG wakes_true)))))
          all_goals (refine wpQuiet_nil ?_; intro _ hw'; obtain ⟨nq, hw''⟩ := hw'; subst hw'')
          all_goals go_wp2
          all_goals go_ret
          all_goals exact ⟨rfl, HB.out.trans ((grown_below _ _ _).mono (Nat.le_of_lt hG0))⟩
        · obtain rfl : m = l := by omega
          clear hN'
          go_wp2
          refine wp_region_grown G hG (by kernel_rfl) (by kernel_rfl) ?_
          repeat (any_goals (first | go_big_quiet_step ((first | (go_at_call 12; exact calls_grown hG hX.out) | (go_at_call 18; exact calls_grown hG wakes_true))) | quiet_step ((first | (go_at_call 12; exact calls_grown hG hX.out) | (go_at_call 18; exact calls_grown hG wakes_true)))))
          all_goals (refine wpQuiet_nil ?_; intro _ hw'; obtain ⟨nq, hw''⟩ := hw'; subst hw'')
          all_goals go_wp2
          all_goals go_ret
          all_goals exact ⟨rfl, HB.out.trans ((grown_below _ _ _).mono (Nat.le_of_lt hG0))⟩
  · go_enter Try.func5, Try.ntmps5
    go_wp2_with fail
    refine (hM.out _).mono ?_
    rintro e w1 ⟨rfl, hB1⟩
    have b0 : Blk w1 w.heap.size 22 #[.int .i64 a, .int .i64 b, .int .i64 c, .int .i64 d] := (Blk.new _ _ _).below hB1 (by simp)
    have hB : Below w.heap.size w w1 := ((Below.refl _ _).alloc (Nat.le_refl _) _).trans (hB1.mono (by simp))
    obtain ⟨c0, c1, c2, c3⟩ := b0.c4
    obtain ⟨G, hG0, hG⟩ : ∃ G, w.heap.size < G ∧ G ≤ w1.heap.size := ⟨w.heap.size + 1, by omega, b0.lt⟩
    have HB := hide hB
    clear hB hB1 b0
    go_wp2_with fail
    go_loop [7, 8] (fun s i => ∃ j : Nat, j ≤ 3 ∧ i = .int .i64 j ∧ s = .bool (isTo a b c d m j)) (fun _ i => 3 - (intOf i).toNat)
    case atStart => exact ⟨0, by omega, rfl, rfl⟩
    case round =>
      obtain ⟨j, hj, rfl, rfl⟩ := hrel
      have hj4 : j = 0 ∨ j = 1 ∨ j = 2 ∨ j = 3 := by omega
      clear hj
      rcases hj4 with rfl | rfl | rfl | rfl
      · have hle : m ≤ a := HL.out 0 (by omega)
        have HT := hide (show isTo a b c d m 1 = (isTo a b c d m 0 || (a == m)) from rfl)
        generalize isTo a b c d m 0 = t at *
        cases t
        · by_cases he : a = m
          · subst he
            go_wp2_with fail
            go_round
            case rel => exact ⟨1, by omega, by go_num, by rw [HT.out]; simp⟩
            case measure => simp [intOf]
          · have hb : (a == m) = false := by simp [he]
            go_wp2_with fail
            go_round
            case rel => exact ⟨1, by omega, by go_num, by rw [HT.out, hb]; rfl⟩
            case measure => simp [intOf]
        · go_wp2_with fail
          go_round
          case rel => exact ⟨1, by omega, by go_num, by rw [HT.out]; rfl⟩
          case measure => simp [intOf]
      · have hle : m ≤ b := HL.out 1 (by omega)
        have HT := hide (show isTo a b c d m 2 = (isTo a b c d m 1 || (b == m)) from rfl)
        generalize isTo a b c d m 1 = t at *
        cases t
        · by_cases he : b = m
          · subst he
            go_wp2_with fail
            go_round
            case rel => exact ⟨2, by omega, by go_num, by rw [HT.out]; simp⟩
            case measure => simp [intOf]
          · have hb : (b == m) = false := by simp [he]
            go_wp2_with fail
            go_round
            case rel => exact ⟨2, by omega, by go_num, by rw [HT.out, hb]; rfl⟩
            case measure => simp [intOf]
        · go_wp2_with fail
          go_round
          case rel => exact ⟨2, by omega, by go_num, by rw [HT.out]; rfl⟩
          case measure => simp [intOf]
      · have hle : m ≤ c := HL.out 2 (by omega)
        have HT := hide (show isTo a b c d m 3 = (isTo a b c d m 2 || (c == m)) from rfl)
        generalize isTo a b c d m 2 = t at *
        cases t
        · by_cases he : c = m
          · subst he
            go_wp2_with fail
            go_round
            case rel => exact ⟨3, by omega, by go_num, by rw [HT.out]; simp⟩
            case measure => simp [intOf]
          · have hb : (c == m) = false := by simp [he]
            go_wp2_with fail
            go_round
            case rel => exact ⟨3, by omega, by go_num, by rw [HT.out, hb]; rfl⟩
            case measure => simp [intOf]
        · go_wp2_with fail
          go_round
          case rel => exact ⟨3, by omega, by go_num, by rw [HT.out]; rfl⟩
          case measure => simp [intOf]
      · have hN := HN.out (by omega)
        have HT := HE.out
        generalize isTo a b c d m 3 = t at *
        subst HT
        generalize hl : leastF a b c d ((3 : Nat) + 1 : Int) = l at *
        have HX : ∀ w, Calls Try.prog 12 #[mar a b c d, .int .i64 4] w fun e w' => e = .returned (.int .i64 l) ∧ Below w.heap.size w w' := fun w => hl ▸ least_any a b c d 4 w
        have hX := hide HX
        clear hl HX
        have hN' : l = min m d := hN
        clear hN
        have hwr : IntKind.i64.wrap 4 = 4 := rfl
        by_cases hx : d < m
        · obtain rfl : d = l := by omega
          clear hN'
          go_wp2
          refine wp_region_grown G hG (by kernel_rfl) (by kernel_rfl) ?_
          repeat (any_goals (first | go_big_quiet_step ((first | (go_at_call 12; exact calls_grown hG hX.out) | (go_at_call 18; exact calls_grown hG wakes_true))) | quiet_step ((first | (go_at_call 12; exact calls_grown hG hX.out) | (go_at_call 18; exact calls_grown hG wakes_true)))))
          all_goals (refine wpQuiet_nil ?_; intro _ hw'; obtain ⟨nq, hw''⟩ := hw'; subst hw'')
          all_goals go_wp2
          all_goals go_ret
          all_goals exact ⟨rfl, HB.out.trans ((grown_below _ _ _).mono (Nat.le_of_lt hG0))⟩
        · obtain rfl : m = l := by omega
          clear hN'
          go_wp2
          refine wp_region_grown G hG (by kernel_rfl) (by kernel_rfl) ?_
          repeat (any_goals (first | go_big_quiet_step ((first | (go_at_call 12; exact calls_grown hG hX.out) | (go_at_call 18; exact calls_grown hG wakes_true))) | quiet_step ((first | (go_at_call 12; exact calls_grown hG hX.out) | (go_at_call 18; exact calls_grown hG wakes_true)))))
          all_goals (refine wpQuiet_nil ?_; intro _ hw'; obtain ⟨nq, hw''⟩ := hw'; subst hw'')
          all_goals go_wp2
          all_goals go_ret
          all_goals exact ⟨rfl, HB.out.trans ((grown_below _ _ _).mono (Nat.le_of_lt hG0))⟩
  · go_enter Try.func5, Try.ntmps5
    go_wp2_with fail
    refine (hM.out _).mono ?_
    rintro e w1 ⟨rfl, hB1⟩
    have b0 : Blk w1 w.heap.size 22 #[.int .i64 a, .int .i64 b, .int .i64 c, .int .i64 d] := (Blk.new _ _ _).below hB1 (by simp)
    have hB : Below w.heap.size w w1 := ((Below.refl _ _).alloc (Nat.le_refl _) _).trans (hB1.mono (by simp))
    obtain ⟨c0, c1, c2, c3⟩ := b0.c4
    obtain ⟨G, hG0, hG⟩ : ∃ G, w.heap.size < G ∧ G ≤ w1.heap.size := ⟨w.heap.size + 1, by omega, b0.lt⟩
    have HB := hide hB
    clear hB hB1 b0
    go_wp2_with fail
    go_loop [7, 8] (fun s i => ∃ j : Nat, j ≤ 4 ∧ i = .int .i64 j ∧ s = .bool (isTo a b c d m j)) (fun _ i => 4 - (intOf i).toNat)
    case atStart => exact ⟨0, by omega, rfl, rfl⟩
    case round =>
      obtain ⟨j, hj, rfl, rfl⟩ := hrel
      have hj4 : j = 0 ∨ j = 1 ∨ j = 2 ∨ j = 3 ∨ j = 4 := by omega
      clear hj
      rcases hj4 with rfl | rfl | rfl | rfl | rfl
      · have hle : m ≤ a := HL.out 0 (by omega)
        have HT := hide (show isTo a b c d m 1 = (isTo a b c d m 0 || (a == m)) from rfl)
        generalize isTo a b c d m 0 = t at *
        cases t
        · by_cases he : a = m
          · subst he
            go_wp2_with fail
            go_round
            case rel => exact ⟨1, by omega, by go_num, by rw [HT.out]; simp⟩
            case measure => simp [intOf]
          · have hb : (a == m) = false := by simp [he]
            go_wp2_with fail
            go_round
            case rel => exact ⟨1, by omega, by go_num, by rw [HT.out, hb]; rfl⟩
            case measure => simp [intOf]
        · go_wp2_with fail
          go_round
          case rel => exact ⟨1, by omega, by go_num, by rw [HT.out]; rfl⟩
          case measure => simp [intOf]
      · have hle : m ≤ b := HL.out 1 (by omega)
        have HT := hide (show isTo a b c d m 2 = (isTo a b c d m 1 || (b == m)) from rfl)
        generalize isTo a b c d m 1 = t at *
        cases t
        · by_cases he : b = m
          · subst he
            go_wp2_with fail
            go_round
            case rel => exact ⟨2, by omega, by go_num, by rw [HT.out]; simp⟩
            case measure => simp [intOf]
          · have hb : (b == m) = false := by simp [he]
            go_wp2_with fail
            go_round
            case rel => exact ⟨2, by omega, by go_num, by rw [HT.out, hb]; rfl⟩
            case measure => simp [intOf]
        · go_wp2_with fail
          go_round
          case rel => exact ⟨2, by omega, by go_num, by rw [HT.out]; rfl⟩
          case measure => simp [intOf]
      · have hle : m ≤ c := HL.out 2 (by omega)
        have HT := hide (show isTo a b c d m 3 = (isTo a b c d m 2 || (c == m)) from rfl)
        generalize isTo a b c d m 2 = t at *
        cases t
        · by_cases he : c = m
          · subst he
            go_wp2_with fail
            go_round
            case rel => exact ⟨3, by omega, by go_num, by rw [HT.out]; simp⟩
            case measure => simp [intOf]
          · have hb : (c == m) = false := by simp [he]
            go_wp2_with fail
            go_round
            case rel => exact ⟨3, by omega, by go_num, by rw [HT.out, hb]; rfl⟩
            case measure => simp [intOf]
        · go_wp2_with fail
          go_round
          case rel => exact ⟨3, by omega, by go_num, by rw [HT.out]; rfl⟩
          case measure => simp [intOf]
      · have hle : m ≤ d := HL.out 3 (by omega)
        have HT := hide (show isTo a b c d m 4 = (isTo a b c d m 3 || (d == m)) from rfl)
        generalize isTo a b c d m 3 = t at *
        cases t
        · by_cases he : d = m
          · subst he
            go_wp2_with fail
            go_round
            case rel => exact ⟨4, by omega, by go_num, by rw [HT.out]; simp⟩
            case measure => simp [intOf]
          · have hb : (d == m) = false := by simp [he]
            go_wp2_with fail
            go_round
            case rel => exact ⟨4, by omega, by go_num, by rw [HT.out, hb]; rfl⟩
            case measure => simp [intOf]
        · go_wp2_with fail
          go_round
          case rel => exact ⟨4, by omega, by go_num, by rw [HT.out]; rfl⟩
          case measure => simp [intOf]
      · have HT := HE.out
        generalize isTo a b c d m 4 = t at *
        subst HT
        go_wp2
        refine wp_region_grown G hG (by kernel_rfl) (by kernel_rfl) ?_
        repeat (any_goals (first | go_big_quiet_step ((first | (go_at_call 18; exact calls_grown hG wakes_true))) | quiet_step ((first | (go_at_call 18; exact calls_grown hG wakes_true)))))
        all_goals (refine wpQuiet_nil ?_; intro _ hw'; obtain ⟨nq, hw''⟩ := hw'; subst hw'')
        all_goals go_wp2
        all_goals go_ret
        all_goals exact ⟨rfl, HB.out.trans ((grown_below _ _ _).mono (Nat.le_of_lt hG0))⟩
  · go_enter Try.func5, Try.ntmps5
    go_wp2_with fail
    refine (hM.out _).mono ?_
    rintro e w1 ⟨rfl, hB1⟩
    have b0 : Blk w1 w.heap.size 22 #[.int .i64 a, .int .i64 b, .int .i64 c, .int .i64 d] := (Blk.new _ _ _).below hB1 (by simp)
    have hB : Below w.heap.size w w1 := ((Below.refl _ _).alloc (Nat.le_refl _) _).trans (hB1.mono (by simp))
    obtain ⟨c0, c1, c2, c3⟩ := b0.c4
    obtain ⟨G, hG0, hG⟩ : ∃ G, w.heap.size < G ∧ G ≤ w1.heap.size := ⟨w.heap.size + 1, by omega, b0.lt⟩
    have HB := hide hB
    clear hB hB1 b0
    go_wp2_with fail
    go_loop [7, 8] (fun s i => ∃ j : Nat, j ≤ 4 ∧ i = .int .i64 j ∧ s = .bool (isTo a b c d m j)) (fun _ i => 4 - (intOf i).toNat)
    case atStart => exact ⟨0, by omega, rfl, rfl⟩
    case round =>
      obtain ⟨j, hj, rfl, rfl⟩ := hrel
      have hj4 : j = 0 ∨ j = 1 ∨ j = 2 ∨ j = 3 ∨ j = 4 := by omega
      clear hj
      rcases hj4 with rfl | rfl | rfl | rfl | rfl
      · have hle : m ≤ a := HL.out 0 (by omega)
        have HT := hide (show isTo a b c d m 1 = (isTo a b c d m 0 || (a == m)) from rfl)
        generalize isTo a b c d m 0 = t at *
        cases t
        · by_cases he : a = m
          · subst he
            go_wp2_with fail
            go_round
            case rel => exact ⟨1, by omega, by go_num, by rw [HT.out]; simp⟩
            case measure => simp [intOf]
          · have hb : (a == m) = false := by simp [he]
            go_wp2_with fail
            go_round
            case rel => exact ⟨1, by omega, by go_num, by rw [HT.out, hb]; rfl⟩
            case measure => simp [intOf]
        · go_wp2_with fail
          go_round
          case rel => exact ⟨1, by omega, by go_num, by rw [HT.out]; rfl⟩
          case measure => simp [intOf]
      · have hle : m ≤ b := HL.out 1 (by omega)
        have HT := hide (show isTo a b c d m 2 = (isTo a b c d m 1 || (b == m)) from rfl)
        generalize isTo a b c d m 1 = t at *
        cases t
        · by_cases he : b = m
          · subst he
            go_wp2_with fail
            go_round
            case rel => exact ⟨2, by omega, by go_num, by rw [HT.out]; simp⟩
            case measure => simp [intOf]
          · have hb : (b == m) = false := by simp [he]
            go_wp2_with fail
            go_round
            case rel => exact ⟨2, by omega, by go_num, by rw [HT.out, hb]; rfl⟩
            case measure => simp [intOf]
        · go_wp2_with fail
          go_round
          case rel => exact ⟨2, by omega, by go_num, by rw [HT.out]; rfl⟩
          case measure => simp [intOf]
      · have hle : m ≤ c := HL.out 2 (by omega)
        have HT := hide (show isTo a b c d m 3 = (isTo a b c d m 2 || (c == m)) from rfl)
        generalize isTo a b c d m 2 = t at *
        cases t
        · by_cases he : c = m
          · subst he
            go_wp2_with fail
            go_round
            case rel => exact ⟨3, by omega, by go_num, by rw [HT.out]; simp⟩
            case measure => simp [intOf]
          · have hb : (c == m) = false := by simp [he]
            go_wp2_with fail
            go_round
            case rel => exact ⟨3, by omega, by go_num, by rw [HT.out, hb]; rfl⟩
            case measure => simp [intOf]
        · go_wp2_with fail
          go_round
          case rel => exact ⟨3, by omega, by go_num, by rw [HT.out]; rfl⟩
          case measure => simp [intOf]
      · have hle : m ≤ d := HL.out 3 (by omega)
        have HT := hide (show isTo a b c d m 4 = (isTo a b c d m 3 || (d == m)) from rfl)
        generalize isTo a b c d m 3 = t at *
        cases t
        · by_cases he : d = m
          · subst he
            go_wp2_with fail
            go_round
            case rel => exact ⟨4, by omega, by go_num, by rw [HT.out]; simp⟩
            case measure => simp [intOf]
          · have hb : (d == m) = false := by simp [he]
            go_wp2_with fail
            go_round
            case rel => exact ⟨4, by omega, by go_num, by rw [HT.out, hb]; rfl⟩
            case measure => simp [intOf]
        · go_wp2_with fail
          go_round
          case rel => exact ⟨4, by omega, by go_num, by rw [HT.out]; rfl⟩
          case measure => simp [intOf]
      · have HT := HE.out
        generalize isTo a b c d m 4 = t at *
        subst HT
        go_wp2
        refine wp_region_grown G hG (by kernel_rfl) (by kernel_rfl) ?_
        repeat (any_goals (first | go_big_quiet_step ((first | (go_at_call 18; exact calls_grown hG wakes_true))) | quiet_step ((first | (go_at_call 18; exact calls_grown hG wakes_true)))))
        all_goals (refine wpQuiet_nil ?_; intro _ hw'; obtain ⟨nq, hw''⟩ := hw'; subst hw'')
        all_goals go_wp2
        all_goals go_ret
        all_goals exact ⟨rfl, HB.out.trans ((grown_below _ _ _).mono (Nat.le_of_lt hG0))⟩
end Go.Proofs.Ytffabippjhipbaa
