/- What the layer of checks answers: the walk of check.Check. -/
import Derived.Test.YtidddeobachjgaaChF
namespace Go.Proofs.Ytidddeobachjgaa
open Go.RowKit Go.Shelf

theorem tuple3 {a b c : Int} {t : Int × Int × Int} (h : t = (a, b, c)) : (Ending.returned (.tuple #[.int .i64 a, .int .i64 b, .int .i64 c])) = .returned (.tuple #[.int .i64 t.1, .int .i64 t.2.1, .int .i64 t.2.2]) := by rw [h]

theorem then_normal {K : Act → World → Prop} {Q : Exit → Act → World → Prop} {a : Act} {w : World} (h : K a w) : Exit.then K Q .normal a w := h
theorem cf_next (p : List Sp) (win : Int) (r n : Nat) (h : broken p win r < 0) : checkFrom p win r (n + 1) = checkFrom p win (r + 1) n := by simp [checkFrom, h]
theorem cf_stop (p : List Sp) (win : Int) (r n : Nat) (h : ¬ broken p win r < 0) : checkFrom p win r (n + 1) = ((r : Int), broken p win r, 110) := by simp [checkFrom, h]

set_option maxRecDepth 100000 in
set_option maxHeartbeats 4000000 in
theorem check_any (p : List Sp) (win : Int) (sv : Value) (w : World) (h : RdS w w.heap.size sv p) :
    Calls Try.prog 28 #[ptV sv win] w fun e w' => e = .returned (.tuple #[.int .i64 (checkF p win).1, .int .i64 (checkF p win).2.1, .int .i64 (checkF p win).2.2]) ∧ Below w.heap.size w w' := by
  have hrh := hide h
  obtain ⟨A, cap, hsv⟩ : ∃ A cap, sv = .slice A p.length cap := by
    obtain ⟨A, cap, b, off, e, -⟩ := h
    exact ⟨A, cap, e⟩
  subst hsv
  clear h
  have hright := hide fun w1 (hb : Below w.heap.size w w1) => right_any p win (.slice A p.length cap) w1 (hrh.out.below hb hb.size)
  have hrules := hide fun w1 (hb : Below w.heap.size w w1) (hr : rightB p win = true) => rules_any p win (.slice A p.length cap) w1 (hrh.out.below hb hb.size) hr
  cases hr : rightB p win with
  | false =>
    have hv : checkF p win = (0, 0, 2) := by simp [checkF, hr]
    rw [hv]
    rw [hr] at hright
    clear hv hrules
    go_enter Try.func28, Try.ntmps28
    go_wp2
    refine wp_scope_fwd 0 rfl ?_
    go_wp2_with (go_at_call 16; (with_reducible refine (hright.out _ ((Below.refl _ _).alloc (Nat.le_refl _) _)).mono ?_); rintro e w1 ⟨rfl, hB1⟩)
    refine ret_jump ?_
    go_ret3
    exact ⟨rfl, ((Below.refl _ _).alloc (Nat.le_refl _) _).trans (hB1.mono (by simp))⟩
  | true =>
    have hv : checkF p win = checkFrom p win 1 7 := by simp [checkF, hr]
    rw [hv]
    have hrr := hide hr
    rw [hr] at hright
    clear hv hr
    go_enter Try.func28, Try.ntmps28
    go_wp2
    refine wp_scope_jumps 0 (fun a' w' => ∃ g B L b, RulesAt w' g B L b p win ∧ Below w.heap.size w w' ∧ ∃ (r : Nat) (x : Int) (y6 y7 y8 y9 y10 y11 y12 y13 y14 y15 y16 y17 y18 y19 y20 y21 y22 y23 : Value), 1 ≤ r ∧ r ≤ 7 ∧ checkFrom p win 1 7 = checkFrom p win (r + 1) (7 - r) ∧
      a' = { tmps := #[ptV (.slice A p.length cap) win, .pointer (some ⟨w.heap.size, 0, none⟩), .int .i64 r, .int .i64 x, .int .i64 0, .slice (some ⟨g, 0, none⟩) 7 7, y6, y7, y8, y9, y10, y11, y12, y13, y14, y15, y16, y17, y18, y19, y20, y21, y22, y23, undef, undef, undef], defers := [] })
      (fun a' _ => 8 - (intOf (a'.tmps.getD 2 undef)).toNat) rfl ?first ?pass
    case first =>
      go_wp2_with (first | (go_at_call 16; (with_reducible refine (hright.out _ ((Below.refl _ _).alloc (Nat.le_refl _) _)).mono ?_); rintro e w1 ⟨rfl, hB1⟩; have hB0 := hide (((Below.refl w.heap.size w).alloc (Nat.le_refl _) _).trans (hB1.mono (by simp))); have hbx := hB1.cell (p := ⟨w.heap.size, 0, none⟩) (by simp); have hbx1 := hB1.cell (p := ⟨w.heap.size, 1, none⟩) (by simp); have hlt1 := hB1.size; clear hB1; simp at hbx hbx1 hlt1) | (go_at_call 56; (with_reducible refine (hrules.out _ hB0.out hrr.out).mono ?_); rintro e w2 ⟨⟨g, B, L, b, rfl, hR⟩, hB2⟩; have hRh := hide hR; have hB3 := hide (hB0.out.trans (hB2.mono hB0.out.size)); have f0 := hR.fns.cell 0; clear hB2))
      have hcal := hide (rule_at1 hRh.out)
      have hn := hide (cf_next p win 1 6)
      have hs := hide (cf_stop p win 1 6)
      clear hR hright hrules
      generalize broken p win 1 = x at *
      refine wp_label (then_normal ?_)
      go_at_K
      by_cases hx : x < 0
      · go_wp2_with (go_at_call 69; (with_reducible refine hcal.out.mono ?_); rintro e w3 ⟨rfl, hB4⟩)
        refine wp_goto ⟨rfl, ?_⟩
        exact ⟨g, B, L, b, hRh.out.below hB4, hB3.out.trans (hB4.mono hB3.out.size), 1, x, _, _, _, _, _, _, _, _, _, _, _, _, _, _, _, _, _, _, by omega, by omega, hn.out hx, rfl⟩
      · go_wp2_with (go_at_call 69; (with_reducible refine hcal.out.mono ?_); rintro e w3 ⟨rfl, hB4⟩)
        refine ret_jump ?_
        go_ret3
        exact ⟨tuple3 (hs.out hx), hB3.out.trans (hB4.mono hB3.out.size)⟩
    case pass =>
      clear hright hrules
      rintro a w2 ⟨g, B, L, b, hR, hB3, r, x, y6, y7, y8, y9, y10, y11, y12, y13, y14, y15, y16, y17, y18, y19, y20, y21, y22, y23, h1, h7, heq, rfl⟩
      have hRh := hide hR
      have hB3 := hide hB3
      have heqh := hide heq
      have hz : w.heap.size ≤ w2.heap.size := hB3.out.size
      obtain rfl | rfl | rfl | rfl | rfl | rfl | rfl : r = 1 ∨ r = 2 ∨ r = 3 ∨ r = 4 ∨ r = 5 ∨ r = 6 ∨ r = 7 := by omega
      · have hcal := hide (rule_at2 hRh.out hrr.out)
        have hn := hide (cf_next p win 2 5)
        have hs := hide (cf_stop p win 2 5)
        have f0 := hR.fns.cell 1
        clear hR heq
        generalize broken p win 2 = z at *
        by_cases hx : z < 0
        · go_wp2_with (go_at_call 71; (with_reducible refine hcal.out.mono ?_); rintro e w3 ⟨rfl, hB4⟩)
          refine wp_goto ⟨rfl, ?_⟩
          exact ⟨⟨g, B, L, b, hRh.out.below hB4, hB3.out.trans (hB4.mono hz), 2, z, _, _, _, _, _, _, _, _, _, _, _, _, _, _, _, _, _, _, by omega, by omega, heqh.out.trans (hn.out hx), rfl⟩, by simp [intOf]⟩
        · go_wp2_with (go_at_call 71; (with_reducible refine hcal.out.mono ?_); rintro e w3 ⟨rfl, hB4⟩)
          refine ret_jump ?_
          go_ret3
          exact ⟨tuple3 (heqh.out.trans (hs.out hx)), hB3.out.trans (hB4.mono hz)⟩
      · have hcal := hide (rule_at3 hRh.out)
        have hn := hide (cf_next p win 3 4)
        have hs := hide (cf_stop p win 3 4)
        have f0 := hR.fns.cell 2
        clear hR heq
        generalize broken p win 3 = z at *
        by_cases hx : z < 0
        · go_wp2_with (go_at_call 67; (with_reducible refine hcal.out.mono ?_); rintro e w3 ⟨rfl, hB4⟩)
          refine wp_goto ⟨rfl, ?_⟩
          exact ⟨⟨g, B, L, b, hRh.out.below hB4, hB3.out.trans (hB4.mono hz), 3, z, _, _, _, _, _, _, _, _, _, _, _, _, _, _, _, _, _, _, by omega, by omega, heqh.out.trans (hn.out hx), rfl⟩, by simp [intOf]⟩
        · go_wp2_with (go_at_call 67; (with_reducible refine hcal.out.mono ?_); rintro e w3 ⟨rfl, hB4⟩)
          refine ret_jump ?_
          go_ret3
          exact ⟨tuple3 (heqh.out.trans (hs.out hx)), hB3.out.trans (hB4.mono hz)⟩
      · have hcal := hide (rule_at4 hRh.out)
        have hn := hide (cf_next p win 4 3)
        have hs := hide (cf_stop p win 4 3)
        have f0 := hR.fns.cell 3
        clear hR heq
        generalize broken p win 4 = z at *
        by_cases hx : z < 0
        · go_wp2_with (go_at_call 67; (with_reducible refine hcal.out.mono ?_); rintro e w3 ⟨rfl, hB4⟩)
          refine wp_goto ⟨rfl, ?_⟩
          exact ⟨⟨g, B, L, b, hRh.out.below hB4, hB3.out.trans (hB4.mono hz), 4, z, _, _, _, _, _, _, _, _, _, _, _, _, _, _, _, _, _, _, by omega, by omega, heqh.out.trans (hn.out hx), rfl⟩, by simp [intOf]⟩
        · go_wp2_with (go_at_call 67; (with_reducible refine hcal.out.mono ?_); rintro e w3 ⟨rfl, hB4⟩)
          refine ret_jump ?_
          go_ret3
          exact ⟨tuple3 (heqh.out.trans (hs.out hx)), hB3.out.trans (hB4.mono hz)⟩
      · have hcal := hide (rule_at5 hRh.out)
        have hn := hide (cf_next p win 5 2)
        have hs := hide (cf_stop p win 5 2)
        have f0 := hR.fns.cell 4
        clear hR heq
        generalize broken p win 5 = z at *
        by_cases hx : z < 0
        · go_wp2_with (go_at_call 67; (with_reducible refine hcal.out.mono ?_); rintro e w3 ⟨rfl, hB4⟩)
          refine wp_goto ⟨rfl, ?_⟩
          exact ⟨⟨g, B, L, b, hRh.out.below hB4, hB3.out.trans (hB4.mono hz), 5, z, _, _, _, _, _, _, _, _, _, _, _, _, _, _, _, _, _, _, by omega, by omega, heqh.out.trans (hn.out hx), rfl⟩, by simp [intOf]⟩
        · go_wp2_with (go_at_call 67; (with_reducible refine hcal.out.mono ?_); rintro e w3 ⟨rfl, hB4⟩)
          refine ret_jump ?_
          go_ret3
          exact ⟨tuple3 (heqh.out.trans (hs.out hx)), hB3.out.trans (hB4.mono hz)⟩
      · have hcal := hide (rule_at6 hRh.out)
        have hn := hide (cf_next p win 6 1)
        have hs := hide (cf_stop p win 6 1)
        have f0 := hR.fns.cell 5
        clear hR heq
        generalize broken p win 6 = z at *
        by_cases hx : z < 0
        · go_wp2_with (go_at_call 75; (with_reducible refine hcal.out.mono ?_); rintro e w3 ⟨rfl, hB4⟩)
          refine wp_goto ⟨rfl, ?_⟩
          exact ⟨⟨g, B, L, b, hRh.out.below hB4, hB3.out.trans (hB4.mono hz), 6, z, _, _, _, _, _, _, _, _, _, _, _, _, _, _, _, _, _, _, by omega, by omega, heqh.out.trans (hn.out hx), rfl⟩, by simp [intOf]⟩
        · go_wp2_with (go_at_call 75; (with_reducible refine hcal.out.mono ?_); rintro e w3 ⟨rfl, hB4⟩)
          refine ret_jump ?_
          go_ret3
          exact ⟨tuple3 (heqh.out.trans (hs.out hx)), hB3.out.trans (hB4.mono hz)⟩
      · have hcal := hide (rule_at7 hRh.out hrr.out)
        have hn := hide (cf_next p win 7 0)
        have hs := hide (cf_stop p win 7 0)
        have f0 := hR.fns.cell 6
        clear hR heq
        generalize broken p win 7 = z at *
        by_cases hx : z < 0
        · go_wp2_with (go_at_call 67; (with_reducible refine hcal.out.mono ?_); rintro e w3 ⟨rfl, hB4⟩)
          refine wp_goto ⟨rfl, ?_⟩
          exact ⟨⟨g, B, L, b, hRh.out.below hB4, hB3.out.trans (hB4.mono hz), 7, z, _, _, _, _, _, _, _, _, _, _, _, _, _, _, _, _, _, _, by omega, by omega, heqh.out.trans (hn.out hx), rfl⟩, by simp [intOf]⟩
        · go_wp2_with (go_at_call 67; (with_reducible refine hcal.out.mono ?_); rintro e w3 ⟨rfl, hB4⟩)
          refine ret_jump ?_
          go_ret3
          exact ⟨tuple3 (heqh.out.trans (hs.out hx)), hB3.out.trans (hB4.mono hz)⟩
      · clear hR heq
        go_wp2
        refine ret_jump ?_
        go_ret3
        exact ⟨tuple3 heqh.out, hB3.out⟩
end Go.Proofs.Ytidddeobachjgaa
