/- The law CheckTails: its walk. -/
import Derived.Test.YtidddeobachjgaaWkC
import Derived.Test.YtidddeobachjgaaPlT
namespace Go.Proofs.Ytidddeobachjgaa
open Go.RowKit

set_option maxRecDepth 100000 in
set_option maxHeartbeats 4000000 in
theorem checkTails_walk (p : List Sp) (win i : Int) (v : Value) (w : World) (h : RdS w w.heap.size v p) :
    Calls Try.prog 11 #[ptV v win, .int .i64 i] w fun e w' => e = .returned (.bool true) ∧ Below w.heap.size w w' := by
  have hgr := hide fun w1 (hb : Below w.heap.size w w1) => great11_any p win v w1 (h.below hb hb.size)
  have htl := hide fun w1 (hb : Below w.heap.size w w1) => tail_any p win v w1 (h.below hb hb.size)
  have hhd := hide fun w1 (hb : Below w.heap.size w w1) => head_any p win i v w1 (h.below hb hb.size)
  cases hg : greatB p with
  | true =>
    rw [hg] at hgr
    obtain ⟨A, cap, rfl⟩ := h.len
    clear h htl hhd hg
    go_enter Try.func11, Try.ntmps11
    have hX := hide ((Below.refl w.heap.size w).alloc (Nat.le_refl _) (.cells #[.slice A p.length cap, .int .i64 win] 24))
    go_wp2_with (first | (go_at_call 26; (with_reducible refine (stayf (G := w.heap.size + 1) (hgr.out _ hX.out) (by simp)).mono ?_); rintro e w1 ⟨rfl, hc1, hf1, hz1, hB1⟩) | (go_at_call 27; (with_reducible refine (wakes11_true _).mono ?_); rintro e w2 ⟨rfl, hB2⟩))
    go_ret
    exact ⟨rfl, (hX.out.trans (hB1.out.mono (by omega))).trans (hB2.mono (by omega))⟩
  | false =>
    rw [hg] at hgr
    obtain ⟨h40, -⟩ := great_no hg
    obtain ⟨l, e1, l1, l2, l3, l4⟩ := last_facts p p.length (Nat.le_refl _)
    have htv : tailF p = (p.length : Int) - 1 - l := by simp [tailF, e1]
    rw [htv] at htl
    clear hg e1 htv
    have hsz := RdL.lenle h
    have hi3 := hide l3
    obtain ⟨A, cap, b, off, rfl, h2, h3, h4, h5⟩ := h
    have hcell : ∀ (j : Nat) (s : Sp), p[j]? = some s → b < w.heap.size ∧ A = some ⟨b, off, none⟩ ∧ w.cell? ⟨b, off + j * 6, none⟩ = some (.bool s.neg) := by
      intro j s hs
      have hj := (List.getElem?_eq_some_iff.1 hs).1
      obtain ⟨rfl, hb⟩ := h4 (by omega)
      obtain ⟨cs, ⟨cv, rfl, -⟩, hat⟩ := h5 j s hs
      exact ⟨hb, rfl, hat.c6.1⟩
    replace hcell := hide hcell
    clear h4 h5 l3
    have hX := hide ((Below.refl w.heap.size w).alloc (Nat.le_refl _) (.cells #[.slice A p.length cap, .int .i64 win] 24))
    obtain ⟨x, hx⟩ : ∃ x, (p.length : Int) - 1 - l = x := ⟨_, rfl⟩
    rw [hx] at htl
    have x1 : 0 ≤ x := by omega
    have x2 : x ≤ p.length := by omega
    have hxh := hide hx
    clear hx
    rcases l4 with rfl | ⟨j, s, rfl, hs, hn⟩
    · have hxn : x = p.length := by have := hxh.out; omega
      have d1 : ¬ x < (p.length : Int) := by omega
      have d2 : decide (x < (p.length : Int)) = false := by simp; omega
      clear hxn
      go_enter Try.func11, Try.ntmps11
      go_upto_region 6 with (first | (go_at_call 26; (with_reducible refine (stayf (G := w.heap.size + 1) (hgr.out _ hX.out) (by simp)).mono ?_); rintro e w1 ⟨rfl, hc1, hf1, hz1, hB1⟩) | (go_at_call 32; (with_reducible refine (stayf (G := w.heap.size + 1) (htl.out _ (hX.out.trans (hB1.out.mono (by omega)))) hz1).mono ?_); rintro e w2 ⟨rfl, hc2, hf2, hz2, hB2⟩; have hX2 := hide ((hX.out.trans (hB1.out.mono (by omega))).trans (hB2.out.mono (by omega)))))
      clear d1 d2
      go_wp2
      go_loop [6] (fun k => ∃ m : Nat, (p.length : Int) - x ≤ m ∧ m ≤ p.length ∧ k = .int .i64 m) (fun k => p.length - (intOf k).toNat)
      case atStart => exact ⟨((p.length : Int) - x).toNat, by omega, by omega, by rw [Int.toNat_of_nonneg (by omega)]⟩
      case round =>
        obtain ⟨m, hm1, hm2, rfl⟩ := hrel
        by_cases hlt : m < p.length
        · obtain ⟨s, hs, hn⟩ := hi3.out m (by have := hxh.out; omega) hlt
          obtain ⟨hb, hA, c0⟩ := hcell.out m s hs
          subst hA
          rw [hn] at c0
          clear hs hn
          go_wp2
          first | exact ⟨⟨m + 1, by omega, by omega, rfl⟩, by simp [intOf]; omega⟩ | (go_round; (case rel => exact ⟨m + 1, by omega, by omega, rfl⟩); (case measure => simp [intOf]; omega))
        · obtain rfl : m = p.length := by omega
          by_cases i0 : i < 0
          · have hv : headF p i = -1 := by simp [headF]; omega
            rw [hv] at hhd
            clear hv
            go_wp2_with (first | (go_at_call 34; (with_reducible refine (stayf (G := w.heap.size + 1) (hhd.out _ hX2.out) hz2).mono ?_); rintro e w3 ⟨rfl, hc3, hf3, hz3, hB3⟩; have hX3 := hide (hX2.out.trans (hB3.out.mono (by omega)))) | (go_at_call 27; (with_reducible refine (wakes11_true _).mono ?_); rintro e w4 ⟨rfl, hB4⟩))
            go_ret
            exact ⟨rfl, hX3.out.trans (hB4.mono hX3.out.size)⟩
          by_cases i1 : (p.length : Int) ≤ i
          · have hv : headF p i = -1 := by simp [headF]; omega
            rw [hv] at hhd
            clear hv
            go_wp2_with (first | (go_at_call 34; (with_reducible refine (stayf (G := w.heap.size + 1) (hhd.out _ hX2.out) hz2).mono ?_); rintro e w3 ⟨rfl, hc3, hf3, hz3, hB3⟩; have hX3 := hide (hX2.out.trans (hB3.out.mono (by omega)))) | (go_at_call 27; (with_reducible refine (wakes11_true _).mono ?_); rintro e w4 ⟨rfl, hB4⟩))
            go_ret
            exact ⟨rfl, hX3.out.trans (hB4.mono hX3.out.size)⟩
          obtain ⟨k0, rfl⟩ : ∃ k : Nat, i = k := ⟨i.toNat, by omega⟩
          obtain ⟨y, e1, y1, y2, y3, y4⟩ := last_facts p k0 (by omega)
          have hv : headF p k0 = y := by
            have : 0 ≤ (k0 : Int) ∧ (k0 : Int) < p.length := by omega
            rw [headF, if_pos this, ← e1]; rfl
          rw [hv] at hhd
          replace y3 := hide y3
          replace i1 := Int.not_le.1 i1
          clear hv e1 i0
          rcases y4 with rfl | ⟨j2, s2, rfl, hs2, hn2⟩
          · go_wp2_with (first | (go_at_call 34; (with_reducible refine (stayf (G := w.heap.size + 1) (hhd.out _ hX2.out) hz2).mono ?_); rintro e w3 ⟨rfl, hc3, hf3, hz3, hB3⟩; have hX3 := hide (hX2.out.trans (hB3.out.mono (by omega)))) | (go_at_call 27; (with_reducible refine (wakes11_true _).mono ?_); rintro e w4 ⟨rfl, hB4⟩))
            go_loop [8] (fun k => ∃ m : Nat, (-1 : Int) < m ∧ m ≤ k0 ∧ k = .int .i64 m) (fun k => k0 - (intOf k).toNat)
            case atStart => exact ⟨((-1 : Int) + 1).toNat, by omega, by omega, by rw [Int.toNat_of_nonneg (by omega)] <;> rfl⟩
            case round =>
              obtain ⟨m, hm1, hm2, rfl⟩ := hrel
              by_cases hlt : m < k0
              · obtain ⟨s, hs, hn⟩ := y3.out m (by omega) hlt
                obtain ⟨hb, hA, c0⟩ := hcell.out m s hs
                subst hA
                rw [hn] at c0
                clear hs hn
                have hmk : (m : Int) < p.length := by omega
                go_wp2
                first | exact ⟨⟨m + 1, by omega, by omega, rfl⟩, by simp [intOf]; omega⟩ | (go_round; (case rel => exact ⟨m + 1, by omega, by omega, rfl⟩); (case measure => simp [intOf]; omega))
              · obtain rfl : m = k0 := by omega
                go_wp2_with (first | (go_at_call 27; (with_reducible refine (wakes11_true _).mono ?_); rintro e w4 ⟨rfl, hB4⟩))
                go_ret
                exact ⟨rfl, hX3.out.trans (hB4.mono hX3.out.size)⟩
          · obtain ⟨hb2, hA2, c2⟩ := hcell.out j2 s2 hs2
            subst hA2
            rw [hn2] at c2
            clear hs2 hn2
            go_wp2_with (first | (go_at_call 34; (with_reducible refine (stayf (G := w.heap.size + 1) (hhd.out _ hX2.out) hz2).mono ?_); rintro e w3 ⟨rfl, hc3, hf3, hz3, hB3⟩; have hX3 := hide (hX2.out.trans (hB3.out.mono (by omega)))) | (go_at_call 27; (with_reducible refine (wakes11_true _).mono ?_); rintro e w4 ⟨rfl, hB4⟩))
            clear c2
            go_loop [8] (fun k => ∃ m : Nat, (j2 : Int) < m ∧ m ≤ k0 ∧ k = .int .i64 m) (fun k => k0 - (intOf k).toNat)
            case atStart => exact ⟨((j2 : Int) + 1).toNat, by omega, by omega, by rw [Int.toNat_of_nonneg (by omega)] <;> rfl⟩
            case round =>
              obtain ⟨m, hm1, hm2, rfl⟩ := hrel
              by_cases hlt : m < k0
              · obtain ⟨s, hs, hn⟩ := y3.out m (by omega) hlt
                obtain ⟨hb, hA, c0⟩ := hcell.out m s hs
                clear hA
                rw [hn] at c0
                clear hs hn
                have hmk : (m : Int) < p.length := by omega
                go_wp2
                first | exact ⟨⟨m + 1, by omega, by omega, rfl⟩, by simp [intOf]; omega⟩ | (go_round; (case rel => exact ⟨m + 1, by omega, by omega, rfl⟩); (case measure => simp [intOf]; omega))
              · obtain rfl : m = k0 := by omega
                go_wp2_with (first | (go_at_call 27; (with_reducible refine (wakes11_true _).mono ?_); rintro e w4 ⟨rfl, hB4⟩))
                go_ret
                exact ⟨rfl, hX3.out.trans (hB4.mono hX3.out.size)⟩
    · obtain ⟨hb, rfl, c0⟩ := hcell.out j s hs
      rw [hn] at c0
      have hj := (List.getElem?_eq_some_iff.1 hs).1
      have d1 : x < (p.length : Int) := by have := hxh.out; omega
      have d3 : (p.length : Int) - 1 - x = j := by have := hxh.out; omega
      clear hs hn
      go_enter Try.func11, Try.ntmps11
      go_upto_region 6 with (first | (go_at_call 26; (with_reducible refine (stayf (G := w.heap.size + 1) (hgr.out _ hX.out) (by simp)).mono ?_); rintro e w1 ⟨rfl, hc1, hf1, hz1, hB1⟩) | (go_at_call 32; (with_reducible refine (stayf (G := w.heap.size + 1) (htl.out _ (hX.out.trans (hB1.out.mono (by omega)))) hz1).mono ?_); rintro e w2 ⟨rfl, hc2, hf2, hz2, hB2⟩; have hX2 := hide ((hX.out.trans (hB1.out.mono (by omega))).trans (hB2.out.mono (by omega)))))
      clear d1 d3 c0
      go_wp2
      go_loop [6] (fun k => ∃ m : Nat, (p.length : Int) - x ≤ m ∧ m ≤ p.length ∧ k = .int .i64 m) (fun k => p.length - (intOf k).toNat)
      case atStart => exact ⟨((p.length : Int) - x).toNat, by omega, by omega, by rw [Int.toNat_of_nonneg (by omega)]⟩
      case round =>
        obtain ⟨m, hm1, hm2, rfl⟩ := hrel
        by_cases hlt : m < p.length
        · obtain ⟨s, hs, hn⟩ := hi3.out m (by have := hxh.out; omega) hlt
          obtain ⟨hb, hA, c0⟩ := hcell.out m s hs
          clear hA
          rw [hn] at c0
          clear hs hn
          go_wp2
          first | exact ⟨⟨m + 1, by omega, by omega, rfl⟩, by simp [intOf]; omega⟩ | (go_round; (case rel => exact ⟨m + 1, by omega, by omega, rfl⟩); (case measure => simp [intOf]; omega))
        · obtain rfl : m = p.length := by omega
          by_cases i0 : i < 0
          · have hv : headF p i = -1 := by simp [headF]; omega
            rw [hv] at hhd
            clear hv
            go_wp2_with (first | (go_at_call 34; (with_reducible refine (stayf (G := w.heap.size + 1) (hhd.out _ hX2.out) hz2).mono ?_); rintro e w3 ⟨rfl, hc3, hf3, hz3, hB3⟩; have hX3 := hide (hX2.out.trans (hB3.out.mono (by omega)))) | (go_at_call 27; (with_reducible refine (wakes11_true _).mono ?_); rintro e w4 ⟨rfl, hB4⟩))
            go_ret
            exact ⟨rfl, hX3.out.trans (hB4.mono hX3.out.size)⟩
          by_cases i1 : (p.length : Int) ≤ i
          · have hv : headF p i = -1 := by simp [headF]; omega
            rw [hv] at hhd
            clear hv
            go_wp2_with (first | (go_at_call 34; (with_reducible refine (stayf (G := w.heap.size + 1) (hhd.out _ hX2.out) hz2).mono ?_); rintro e w3 ⟨rfl, hc3, hf3, hz3, hB3⟩; have hX3 := hide (hX2.out.trans (hB3.out.mono (by omega)))) | (go_at_call 27; (with_reducible refine (wakes11_true _).mono ?_); rintro e w4 ⟨rfl, hB4⟩))
            go_ret
            exact ⟨rfl, hX3.out.trans (hB4.mono hX3.out.size)⟩
          obtain ⟨k0, rfl⟩ : ∃ k : Nat, i = k := ⟨i.toNat, by omega⟩
          obtain ⟨y, e1, y1, y2, y3, y4⟩ := last_facts p k0 (by omega)
          have hv : headF p k0 = y := by
            have : 0 ≤ (k0 : Int) ∧ (k0 : Int) < p.length := by omega
            rw [headF, if_pos this, ← e1]; rfl
          rw [hv] at hhd
          replace y3 := hide y3
          replace i1 := Int.not_le.1 i1
          clear hv e1 i0
          rcases y4 with rfl | ⟨j2, s2, rfl, hs2, hn2⟩
          · go_wp2_with (first | (go_at_call 34; (with_reducible refine (stayf (G := w.heap.size + 1) (hhd.out _ hX2.out) hz2).mono ?_); rintro e w3 ⟨rfl, hc3, hf3, hz3, hB3⟩; have hX3 := hide (hX2.out.trans (hB3.out.mono (by omega)))) | (go_at_call 27; (with_reducible refine (wakes11_true _).mono ?_); rintro e w4 ⟨rfl, hB4⟩))
            go_loop [8] (fun k => ∃ m : Nat, (-1 : Int) < m ∧ m ≤ k0 ∧ k = .int .i64 m) (fun k => k0 - (intOf k).toNat)
            case atStart => exact ⟨((-1 : Int) + 1).toNat, by omega, by omega, by rw [Int.toNat_of_nonneg (by omega)] <;> rfl⟩
            case round =>
              obtain ⟨m, hm1, hm2, rfl⟩ := hrel
              by_cases hlt : m < k0
              · obtain ⟨s, hs, hn⟩ := y3.out m (by omega) hlt
                obtain ⟨hb, hA, c0⟩ := hcell.out m s hs
                clear hA
                rw [hn] at c0
                clear hs hn
                have hmk : (m : Int) < p.length := by omega
                go_wp2
                first | exact ⟨⟨m + 1, by omega, by omega, rfl⟩, by simp [intOf]; omega⟩ | (go_round; (case rel => exact ⟨m + 1, by omega, by omega, rfl⟩); (case measure => simp [intOf]; omega))
              · obtain rfl : m = k0 := by omega
                go_wp2_with (first | (go_at_call 27; (with_reducible refine (wakes11_true _).mono ?_); rintro e w4 ⟨rfl, hB4⟩))
                go_ret
                exact ⟨rfl, hX3.out.trans (hB4.mono hX3.out.size)⟩
          · obtain ⟨hb2, hA2, c2⟩ := hcell.out j2 s2 hs2
            clear hA2
            rw [hn2] at c2
            clear hs2 hn2
            go_wp2_with (first | (go_at_call 34; (with_reducible refine (stayf (G := w.heap.size + 1) (hhd.out _ hX2.out) hz2).mono ?_); rintro e w3 ⟨rfl, hc3, hf3, hz3, hB3⟩; have hX3 := hide (hX2.out.trans (hB3.out.mono (by omega)))) | (go_at_call 27; (with_reducible refine (wakes11_true _).mono ?_); rintro e w4 ⟨rfl, hB4⟩))
            clear c2
            go_loop [8] (fun k => ∃ m : Nat, (j2 : Int) < m ∧ m ≤ k0 ∧ k = .int .i64 m) (fun k => k0 - (intOf k).toNat)
            case atStart => exact ⟨((j2 : Int) + 1).toNat, by omega, by omega, by rw [Int.toNat_of_nonneg (by omega)] <;> rfl⟩
            case round =>
              obtain ⟨m, hm1, hm2, rfl⟩ := hrel
              by_cases hlt : m < k0
              · obtain ⟨s, hs, hn⟩ := y3.out m (by omega) hlt
                obtain ⟨hb, hA, c0⟩ := hcell.out m s hs
                clear hA
                rw [hn] at c0
                clear hs hn
                have hmk : (m : Int) < p.length := by omega
                go_wp2
                first | exact ⟨⟨m + 1, by omega, by omega, rfl⟩, by simp [intOf]; omega⟩ | (go_round; (case rel => exact ⟨m + 1, by omega, by omega, rfl⟩); (case measure => simp [intOf]; omega))
              · obtain rfl : m = k0 := by omega
                go_wp2_with (first | (go_at_call 27; (with_reducible refine (wakes11_true _).mono ?_); rintro e w4 ⟨rfl, hB4⟩))
                go_ret
                exact ⟨rfl, hX3.out.trans (hB4.mono hX3.out.size)⟩
end Go.Proofs.Ytidddeobachjgaa
