/- The law CheckFirst: its walk. -/
import Derived.Test.YtidddeobachjgaaWkC
import Derived.Test.YtidddeobachjgaaPlU
import Derived.Test.YtidddeobachjgaaOw
import Derived.Test.YtidddeobachjgaaTrF
namespace Go.Proofs.Ytidddeobachjgaa
open Go.RowKit

theorem OwP.caps {w : World} {base : Nat} {A : Option Addr} {n cap : Nat} {ps : List (Sp × Value)} (h : OwP w base (.slice A n cap) ps) : n = ps.length ∧ n ≤ cap ∧ cap ≤ 9223372036854775807 := by
  rcases h.row.2 with ⟨e, h3⟩ | ⟨g, c, cur, e, -, -, hn, hm, -⟩
  · injection e with e1 e2 e3; subst e2 e3; exact ⟨h3.symm, Nat.le_refl _, by omega⟩
  · injection e with e1 e2 e3; subst e2 e3; unfold maxLen at hm; exact ⟨rfl, hn, hm⟩

set_option maxRecDepth 100000 in
set_option maxHeartbeats 8000000 in
theorem checkFirst_walk (p : List Sp) (win : Int) (v : Value) (w : World) (h : RdS w w.heap.size v p) :
    Calls Try.prog 10 #[ptV v win] w fun e w' => e = .returned (.bool true) ∧ Below w.heap.size w w' := by
  have hgr := hide fun w1 (hb : Below w.heap.size w w1) => great11_any p win v w1 (h.below hb hb.size)
  have hck := hide fun w1 (hb : Below w.heap.size w w1) => check_any p win v w1 (h.below hb hb.size)
  have hrr := hide fun w1 (hb : Below w.heap.size w w1) => rright_any p win v w1 (h.below hb hb.size)
  have hsz := RdL.lenle h
  cases hg : greatB p with
  | true =>
    rw [hg] at hgr
    obtain ⟨A, cap, rfl⟩ := h.len
    clear h hck hrr hg
    go_enter Try.func10, Try.ntmps10
    have hX := hide ((Below.refl w.heap.size w).alloc (Nat.le_refl _) (.cells #[.slice A p.length cap, .int .i64 win] 24))
    go_wp2_with (first | (go_at_call 26; (with_reducible refine (stayf (G := w.heap.size + 1) (hgr.out _ hX.out) (by simp)).mono ?_); rintro e w1 ⟨rfl, hc1, hf1, hz1, hB1⟩) | (go_at_call 27; (with_reducible refine (wakes11_true _).mono ?_); rintro e w2 ⟨rfl, hB2⟩))
    go_ret
    exact ⟨rfl, (hX.out.trans (hB1.out.mono (by omega))).trans (hB2.mono (by omega))⟩
  | false =>
    rw [hg] at hgr
    obtain ⟨h40, hc20⟩ := great_no hg
    have hown := hide fun w1 (hb : Below w.heap.size w w1) => rown_any p win v w1 (h.below hb hb.size) (by omega) (fun s hs => by have := hc20 s hs; omega)
    clear hg hc20
    obtain ⟨A, cap, rfl⟩ := h.len
    clear h
    have hX := hide ((Below.refl w.heap.size w).alloc (Nat.le_refl _) (.cells #[.slice A p.length cap, .int .i64 win] 24))
    cases hr : rightB p win with
    | false =>
      rw [check_wrong hr] at hck
      rw [hr] at hrr
      clear hr hown
      go_enter Try.func10, Try.ntmps10
      go_wp2_with (first | (go_at_call 26; (with_reducible refine (stayf (G := w.heap.size + 1) (hgr.out _ hX.out) (by simp)).mono ?_); rintro e1 w1 ⟨rfl, hc1, hf1, hz1, hB1⟩; have hX1 := hide (hX.out.trans (hB1.out.mono (by omega)))) | (go_at_call 28; (with_reducible refine (stayf (G := w.heap.size + 1) (hck.out _ hX1.out) hz1).mono ?_); rintro e1 w2 ⟨rfl, hc2, hf2', hz2, hB2⟩; have hX2 := hide (hX1.out.trans (hB2.out.mono (by omega)))) | (go_at_call 13; (with_reducible refine (stayf (G := w.heap.size + 1) (hrr.out _ hX2.out) hz2).mono ?_); rintro e1 w3 ⟨rfl, hc3, hf3, hz3, hB3⟩; have hX3 := hide (hX2.out.trans (hB3.out.mono (by omega)))) | (go_at_call 27; (with_reducible refine (wakes11_true _).mono ?_); rintro e1 w4 ⟨rfl, hB4⟩))
      go_ret
      exact ⟨rfl, hX3.out.trans (hB4.mono hX3.out.size)⟩
    | true =>
      obtain ⟨r, a, e, hf⟩ : ∃ r a e, checkF p win = (r, a, e) := ⟨_, _, _, rfl⟩
      obtain ⟨q1, q2, q3, q4, q5, q6⟩ := check_first hr hf
      rw [hf] at hck
      rw [hr] at hrr
      simp only at hck
      clear hf
      have hpos := (right_parts hr).1
      have hne : p ≠ [] := by rintro rfl; simp at hpos
      have hd0 : decide ((p.length : Int) ≤ 0) = false := by simp; omega
      replace hr := hide hr
      replace q6 := hide q6
      by_cases h4 : r = 3 ∨ r = 4 ∨ r = 5 ∨ r = 7
      · have r0 : r ≠ 0 := by omega
        have e0 : e ≠ 0 := fun h => r0 (q1.1 h)
        have t1 : (e == 0) = false := by simpa using e0
        clear q1 e0
        by_cases ha : a = 0
        · subst ha
          clear q6
          rcases h4 with rfl | rfl | rfl | rfl
          all_goals
            clear r0
            go_enter Try.func10, Try.ntmps10
            go_wp2_with (first | (go_at_call 26; (with_reducible refine (stayf (G := w.heap.size + 1) (hgr.out _ hX.out) (by simp)).mono ?_); rintro e1 w1 ⟨rfl, hc1, hf1, hz1, hB1⟩; have hX1 := hide (hX.out.trans (hB1.out.mono (by omega)))) | (go_at_call 28; (with_reducible refine (stayf (G := w.heap.size + 1) (hck.out _ hX1.out) hz1).mono ?_); rintro e1 w2 ⟨rfl, hc2, hf2', hz2, hB2⟩; have hX2 := hide (hX1.out.trans (hB2.out.mono (by omega)))) | (go_at_call 13; (with_reducible refine (stayf (G := w.heap.size + 1) (hrr.out _ hX2.out) hz2).mono ?_); rintro e1 w3 ⟨rfl, hc3, hf3, hz3, hB3⟩; have hX3 := hide (hX2.out.trans (hB3.out.mono (by omega)))) | (go_at_call 27; (with_reducible refine (wakes11_true _).mono ?_); rintro e1 w4 ⟨rfl, hB4⟩))
            go_ret
            exact ⟨rfl, hX3.out.trans (hB4.mono hX3.out.size)⟩
        · obtain ⟨j, rfl⟩ : ∃ j : Nat, a = j := ⟨a.toNat, by omega⟩
          have q7 := q6.out h4 (by omega)
          have hj : j < p.length := by omega
          have t2 : ((j : Int) == 0) = false := by simpa using ha
          obtain ⟨r2, a2, e2, hf2⟩ : ∃ r a e, checkF (p.take j) win = (r, a, e) := ⟨_, _, _, rfl⟩
          rw [show ((j : Int)).toNat = j from rfl, hf2] at q7
          simp only at q7
          replace hf2 := hide hf2
          clear q6 ha
          rcases h4 with rfl | rfl | rfl | rfl
          all_goals
            clear r0
            by_cases z2 : r2 = 0
            · subst z2
              clear q7
              go_enter Try.func10, Try.ntmps10
              go_wp2_with (first | (go_at_call 26; (with_reducible refine (stayf (G := w.heap.size + 1) (hgr.out _ hX.out) (by simp)).mono ?_); rintro e1 w1 ⟨rfl, hc1, hf1, hz1, hB1⟩; have hX1 := hide (hX.out.trans (hB1.out.mono (by omega)))) | (go_at_call 28; (with_reducible refine (stayf (G := w.heap.size + 1) (hck.out _ hX1.out) hz1).mono ?_); rintro e1 w2 ⟨rfl, hc2, hf2', hz2, hB2⟩; have hX2 := hide (hX1.out.trans (hB2.out.mono (by omega)))) | (go_at_call 13; (with_reducible refine (stayf (G := w.heap.size + 1) (hrr.out _ hX2.out) hz2).mono ?_); rintro e1 w3 ⟨rfl, hc3, hf3, hz3, hB3⟩; have hX3 := hide (hX2.out.trans (hB3.out.mono (by omega)))) | (go_at_call 15; (with_reducible refine (hown.out _ hX3.out).mono ?_); rintro e1 w5 ⟨⟨sv5, ps5, rfl, hP5, hps5⟩, hB5⟩; obtain ⟨A5, k5, rfl⟩ := hP5.form; obtain ⟨-, m5, n5⟩ := hP5.caps; have hl5 : ps5.length = p.length := (by rw [← hps5]; simp); have hrd5 := hP5.rd; rw [hps5, hl5] at hrd5; rw [hl5] at m5 ⊢; have hck2 := hide fun w1 (hb : Below w5.heap.size w5 w1) => check_any (p.take j) win (.slice A5 j k5) w1 (RdS.below (RdL.take hrd5 j (by omega)) hb hb.size); rw [hf2.out] at hck2; have hX5 := hide (hX3.out.trans (hB5.mono hX3.out.size)); clear hP5 hps5 hB5 hrd5 hl5) | (go_at_call 28; (with_reducible refine (hck2.out _ ((Below.refl _ _).alloc (Nat.le_refl _) _)).mono ?_); rintro e1 w6 ⟨rfl, hB6⟩; have hX6 := hide ((hX5.out.alloc hX5.out.size _).trans (hB6.mono (by have := hX5.out.size; simp; omega)))) | (go_at_call 27; (with_reducible refine (wakes11_true _).mono ?_); rintro e1 w4 ⟨rfl, hB4⟩))
              go_ret
              exact ⟨rfl, hX6.out.trans (hB4.mono hX6.out.size)⟩
            · have q8 := q7.resolve_left z2
              have t3 : (r2 == 0) = false := by simpa using z2
              clear q7 z2
              go_enter Try.func10, Try.ntmps10
              go_wp2_with (first | (go_at_call 26; (with_reducible refine (stayf (G := w.heap.size + 1) (hgr.out _ hX.out) (by simp)).mono ?_); rintro e1 w1 ⟨rfl, hc1, hf1, hz1, hB1⟩; have hX1 := hide (hX.out.trans (hB1.out.mono (by omega)))) | (go_at_call 28; (with_reducible refine (stayf (G := w.heap.size + 1) (hck.out _ hX1.out) hz1).mono ?_); rintro e1 w2 ⟨rfl, hc2, hf2', hz2, hB2⟩; have hX2 := hide (hX1.out.trans (hB2.out.mono (by omega)))) | (go_at_call 13; (with_reducible refine (stayf (G := w.heap.size + 1) (hrr.out _ hX2.out) hz2).mono ?_); rintro e1 w3 ⟨rfl, hc3, hf3, hz3, hB3⟩; have hX3 := hide (hX2.out.trans (hB3.out.mono (by omega)))) | (go_at_call 15; (with_reducible refine (hown.out _ hX3.out).mono ?_); rintro e1 w5 ⟨⟨sv5, ps5, rfl, hP5, hps5⟩, hB5⟩; obtain ⟨A5, k5, rfl⟩ := hP5.form; obtain ⟨-, m5, n5⟩ := hP5.caps; have hl5 : ps5.length = p.length := (by rw [← hps5]; simp); have hrd5 := hP5.rd; rw [hps5, hl5] at hrd5; rw [hl5] at m5 ⊢; have hck2 := hide fun w1 (hb : Below w5.heap.size w5 w1) => check_any (p.take j) win (.slice A5 j k5) w1 (RdS.below (RdL.take hrd5 j (by omega)) hb hb.size); rw [hf2.out] at hck2; have hX5 := hide (hX3.out.trans (hB5.mono hX3.out.size)); clear hP5 hps5 hB5 hrd5 hl5) | (go_at_call 28; (with_reducible refine (hck2.out _ ((Below.refl _ _).alloc (Nat.le_refl _) _)).mono ?_); rintro e1 w6 ⟨rfl, hB6⟩; have hX6 := hide ((hX5.out.alloc hX5.out.size _).trans (hB6.mono (by have := hX5.out.size; simp; omega)))) | (go_at_call 27; (with_reducible refine (wakes11_true _).mono ?_); rintro e1 w4 ⟨rfl, hB4⟩))
              go_ret
              exact ⟨rfl, hX6.out.trans (hB4.mono hX6.out.size)⟩
      · have t3 : (r == 3) = false := by simp; omega
        have t4 : (r == 4) = false := by simp; omega
        have t5 : (r == 5) = false := by simp; omega
        have t7 : (r == 7) = false := by simp; omega
        have u3 : (r != 3) = true := by simp; omega
        have u4 : (r != 4) = true := by simp; omega
        have u5 : (r != 5) = true := by simp; omega
        have u7 : (r != 7) = true := by simp; omega
        clear q6 h4
        by_cases r0 : r = 0
        · have e0 := q1.2 r0
          subst r0 e0
          clear q1 t3 t4 t5 t7 u3 u4 u5 u7
          go_enter Try.func10, Try.ntmps10
          go_wp2_with (first | (go_at_call 26; (with_reducible refine (stayf (G := w.heap.size + 1) (hgr.out _ hX.out) (by simp)).mono ?_); rintro e1 w1 ⟨rfl, hc1, hf1, hz1, hB1⟩; have hX1 := hide (hX.out.trans (hB1.out.mono (by omega)))) | (go_at_call 28; (with_reducible refine (stayf (G := w.heap.size + 1) (hck.out _ hX1.out) hz1).mono ?_); rintro e1 w2 ⟨rfl, hc2, hf2', hz2, hB2⟩; have hX2 := hide (hX1.out.trans (hB2.out.mono (by omega)))) | (go_at_call 13; (with_reducible refine (stayf (G := w.heap.size + 1) (hrr.out _ hX2.out) hz2).mono ?_); rintro e1 w3 ⟨rfl, hc3, hf3, hz3, hB3⟩; have hX3 := hide (hX2.out.trans (hB3.out.mono (by omega)))) | (go_at_call 27; (with_reducible refine (wakes11_true _).mono ?_); rintro e1 w4 ⟨rfl, hB4⟩))
          go_ret
          exact ⟨rfl, hX3.out.trans (hB4.mono hX3.out.size)⟩
        · have t1 : (e == 0) = false := by simpa using fun h => r0 (q1.1 h)
          have t2 : (r == 0) = false := by simpa using r0
          clear q1 r0
          go_enter Try.func10, Try.ntmps10
          go_wp2_with (first | (go_at_call 26; (with_reducible refine (stayf (G := w.heap.size + 1) (hgr.out _ hX.out) (by simp)).mono ?_); rintro e1 w1 ⟨rfl, hc1, hf1, hz1, hB1⟩; have hX1 := hide (hX.out.trans (hB1.out.mono (by omega)))) | (go_at_call 28; (with_reducible refine (stayf (G := w.heap.size + 1) (hck.out _ hX1.out) hz1).mono ?_); rintro e1 w2 ⟨rfl, hc2, hf2', hz2, hB2⟩; have hX2 := hide (hX1.out.trans (hB2.out.mono (by omega)))) | (go_at_call 13; (with_reducible refine (stayf (G := w.heap.size + 1) (hrr.out _ hX2.out) hz2).mono ?_); rintro e1 w3 ⟨rfl, hc3, hf3, hz3, hB3⟩; have hX3 := hide (hX2.out.trans (hB3.out.mono (by omega)))) | (go_at_call 27; (with_reducible refine (wakes11_true _).mono ?_); rintro e1 w4 ⟨rfl, hB4⟩))
          go_ret
          exact ⟨rfl, hX3.out.trans (hB4.mono hX3.out.size)⟩
end Go.Proofs.Ytidddeobachjgaa
