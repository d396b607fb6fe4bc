/- The law CheckOne: its walk. -/
import Derived.Test.YtidddeobachjgaaWkC
import Derived.Test.YtidddeobachjgaaPlO
import Derived.Test.YtidddeobachjgaaLibY
import Derived.Test.YtidddeobachjgaaTrG
import Derived.Deep.CutRange
namespace Go.Proofs.Ytidddeobachjgaa
open Go.RowKit

/-- How long the slice is that stands in block b. -/
def lenAt (w : World) (b : Nat) : Nat := match w.cell? ⟨b, 0, none⟩ with
  | some (.slice _ n _) => n
  | _ => 0
/-- Which step is meant. -/
theorem at_val (a m : Int) (h0 : 0 < m) : -m < a.tmod m ∧ a.tmod m < m ∧ ∃ k : Nat, (k : Int) < m ∧ (a.tmod m + m).tmod m = k := by
  have h1 : -m < a.tmod m := by
    have := Int.lt_tmod_of_pos a h0
    omega
  have h2 : a.tmod m < m := Int.tmod_lt_of_pos a h0
  refine ⟨h1, h2, ((a.tmod m + m).tmod m).toNat, ?_, ?_⟩
  · have h3 := Int.tmod_lt_of_pos (a.tmod m + m) h0
    have h4 : 0 ≤ (a.tmod m + m).tmod m := Int.tmod_nonneg _ (by omega)
    omega
  · have h4 : 0 ≤ (a.tmod m + m).tmod m := Int.tmod_nonneg _ (by omega)
    omega

set_option maxRecDepth 100000 in
set_option maxHeartbeats 16000000 in
theorem checkOne_walk (p : List Sp) (win a0 n : Int) (v : Value) (w : World) (h : RdS w w.heap.size v p) (ha : -9223372036854775808 ≤ a0 ∧ a0 ≤ 9223372036854775807) :
    Calls Try.prog 9 #[ptV v win, .int .i64 a0, .int .i64 n] w fun e w' => e = .returned (.bool true) ∧ Below w.heap.size w w' := by
  have hgr := hide fun w1 (hb : Below w.heap.size w w1) => great11_any p win v w1 (h.below hb hb.size)
  have hmy := hide fun w1 (hb : Below w.heap.size w w1) => cright_any p win v w1 (h.below hb hb.size)
  have hsz := RdL.lenle h
  cases hg : greatB p with
  | true =>
    rw [hg] at hgr
    obtain ⟨A, cap, rfl⟩ := h.len
    clear h hmy hg
    go_enter Try.func9, Try.ntmps9
    have hX := hide ((Below.refl w.heap.size w).alloc (Nat.le_refl _) (.cells #[.slice A p.length cap, .int .i64 win] 24))
    go_wp2_with (first | (go_at_call 26; (with_reducible refine (stayf (G := w.heap.size + 1) (hgr.out _ hX.out) (by simp)).mono ?_); rintro e w1 ⟨rfl, hc1, hf1, hz1, hB1⟩) | (go_at_call 27; (with_reducible refine (wakes11_true _).mono ?_); rintro e w2 ⟨rfl, hB2⟩))
    go_ret
    exact ⟨rfl, (hX.out.trans (hB1.out.mono (by omega))).trans (hB2.mono (by omega))⟩
  | false =>
    rw [hg] at hgr
    obtain ⟨h40, hc20⟩ := great_no hg
    clear hg
    cases hm : mayB p win with
    | false =>
      rw [hm] at hmy
      obtain ⟨A, cap, rfl⟩ := h.len
      clear h hm h40 hc20
      go_enter Try.func9, Try.ntmps9
      have hX := hide ((Below.refl w.heap.size w).alloc (Nat.le_refl _) (.cells #[.slice A p.length cap, .int .i64 win] 24))
      go_wp2_with (first | (go_at_call 26; (with_reducible refine (stayf (G := w.heap.size + 1) (hgr.out _ hX.out) (by simp)).mono ?_); rintro e1 w1 ⟨rfl, hc1, hf1, hz1, hB1⟩; have hX1 := hide (hX.out.trans (hB1.out.mono (by omega)))) | (go_at_call 30; (with_reducible refine (stayf (G := w.heap.size + 1) (hmy.out _ hX1.out) hz1).mono ?_); rintro e1 w2 ⟨rfl, hc2, hf2', hz2, hB2⟩; have hX2 := hide (hX1.out.trans (hB2.out.mono (by omega)))) | (go_at_call 27; (with_reducible refine (wakes11_true _).mono ?_); rintro e1 w4 ⟨rfl, hB4⟩))
      go_ret
      exact ⟨rfl, hX2.out.trans (hB4.mono hX2.out.size)⟩
    | true =>
      rw [hm] at hmy
      by_cases n1 : n < 1
      · obtain ⟨A, cap, rfl⟩ := h.len
        clear h hm h40 hc20
        go_enter Try.func9, Try.ntmps9
        have hX := hide ((Below.refl w.heap.size w).alloc (Nat.le_refl _) (.cells #[.slice A p.length cap, .int .i64 win] 24))
        go_wp2_with (first | (go_at_call 26; (with_reducible refine (stayf (G := w.heap.size + 1) (hgr.out _ hX.out) (by simp)).mono ?_); rintro e1 w1 ⟨rfl, hc1, hf1, hz1, hB1⟩; have hX1 := hide (hX.out.trans (hB1.out.mono (by omega)))) | (go_at_call 30; (with_reducible refine (stayf (G := w.heap.size + 1) (hmy.out _ hX1.out) hz1).mono ?_); rintro e1 w2 ⟨rfl, hc2, hf2', hz2, hB2⟩; have hX2 := hide (hX1.out.trans (hB2.out.mono (by omega)))) | (go_at_call 27; (with_reducible refine (wakes11_true _).mono ?_); rintro e1 w4 ⟨rfl, hB4⟩))
        go_ret
        exact ⟨rfl, hX2.out.trans (hB4.mono hX2.out.size)⟩
      by_cases n2 : 1000 < n
      · obtain ⟨A, cap, rfl⟩ := h.len
        clear h hm h40 hc20
        go_enter Try.func9, Try.ntmps9
        have hX := hide ((Below.refl w.heap.size w).alloc (Nat.le_refl _) (.cells #[.slice A p.length cap, .int .i64 win] 24))
        go_wp2_with (first | (go_at_call 26; (with_reducible refine (stayf (G := w.heap.size + 1) (hgr.out _ hX.out) (by simp)).mono ?_); rintro e1 w1 ⟨rfl, hc1, hf1, hz1, hB1⟩; have hX1 := hide (hX.out.trans (hB1.out.mono (by omega)))) | (go_at_call 30; (with_reducible refine (stayf (G := w.heap.size + 1) (hmy.out _ hX1.out) hz1).mono ?_); rintro e1 w2 ⟨rfl, hc2, hf2', hz2, hB2⟩; have hX2 := hide (hX1.out.trans (hB2.out.mono (by omega)))) | (go_at_call 27; (with_reducible refine (wakes11_true _).mono ?_); rintro e1 w4 ⟨rfl, hB4⟩))
        go_ret
        exact ⟨rfl, hX2.out.trans (hB4.mono hX2.out.size)⟩
      replace n1 := Int.not_lt.1 n1
      replace n2 := Int.not_lt.1 n2
      obtain ⟨⟨hpos, h6⟩, -⟩ := may_kept hm
      have hown := hide fun w1 (hb : Below w.heap.size w w1) => rown_any p win v w1 (h.below hb hb.size) (by omega) (fun s hs => by have := hc20 s hs; omega)
      obtain ⟨A, cap, rfl⟩ := h.len
      have hpos' : (0 : Int) < p.length := by omega
      have h6' : (p.length : Int) ≤ 6 := by omega
      replace hm := hide hm
      replace hc20 := hide hc20
      clear h
      go_enter Try.func9, Try.ntmps9
      have hX := hide ((Below.refl w.heap.size w).alloc (Nat.le_refl _) (.cells #[.slice A p.length cap, .int .i64 win] 24))
      go_upto_region 3 with (first | (go_at_call 26; (with_reducible refine (stayf (G := w.heap.size + 1) (hgr.out _ hX.out) (by simp)).mono ?_); rintro e1 w1 ⟨rfl, hc1, hf1, hz1, hB1⟩; have hX1 := hide (hX.out.trans (hB1.out.mono (by omega)))) | (go_at_call 30; (with_reducible refine (stayf (G := w.heap.size + 1) (hmy.out _ hX1.out) hz1).mono ?_); rintro e1 w2 ⟨rfl, hc2, hf2', hz2, hB2⟩; have hX2 := hide (hX1.out.trans (hB2.out.mono (by omega)))))
      have e0 : w2.cell? ⟨w.heap.size, 0, none⟩ = some (.slice A p.length cap) := by rw [hc2 _ _ (by omega), hc1 _ _ (by omega)]; simp
      have e1 : w2.cell? ⟨w.heap.size, 1, none⟩ = some (.int .i64 win) := by rw [hc2 _ _ (by omega), hc1 _ _ (by omega)]; simp
      have hz : w.heap.size < w2.heap.size := hz2
      replace hX2 := hX2.out
      clear hc1 hc2 hf1 hf2' hB1 hB2 hX1 hX hz1 hz2 hgr hmy
      obtain ⟨q1, q2, at_, hat, hav⟩ := at_val a0 p.length hpos'
      have hw1 : IntKind.i64.wrap (a0.tmod p.length + p.length) = a0.tmod p.length + p.length := IntWalk.i64_in _ (by omega)
      clear q1 q2
      go_quiet (fail)
      clear hw1
      clear hav ha
      have hat' : at_ < p.length := by omega
      replace hX2 := bdrewN hX2 nq
      replace hz : w.heap.size < (w2.drewN nq).heap.size := hz
      replace e0 : (w2.drewN nq).cell? ⟨w.heap.size, 0, none⟩ = some (.slice A p.length cap) := e0
      replace e1 : (w2.drewN nq).cell? ⟨w.heap.size, 1, none⟩ = some (.int .i64 win) := e1
      generalize w2.drewN nq = V at *
      go_upto_region 5 with (fail)
      go_loopw [7] (fun i wr => ∃ r : Int, 1 ≤ r ∧ r ≤ 8 ∧ i = .int .i64 r ∧ Below w.heap.size w wr ∧ wr.cell? ⟨w.heap.size, 0, none⟩ = some (.slice A p.length cap) ∧ wr.cell? ⟨w.heap.size, 1, none⟩ = some (.int .i64 win) ∧ w.heap.size < wr.heap.size) (fun i _ => (8 - intOf i).toNat)
      case atStart => exact ⟨1, by omega, by omega, rfl, hX2, e0, e1, hz⟩
      case round =>
        clear hX2 e0 e1 hz
        obtain ⟨r, hr1, hr8, rfl, hB, e0, e1, hz⟩ := hrel
        by_cases h8 : r = 8
        · subst h8
          clear hown hm hc20
          replace hB := hide hB
          go_wp2_with (go_at_call 27; (with_reducible refine (wakes11_true _).mono ?_); rintro e1 w4 ⟨rfl, hB4⟩)
          go_ret
          exact ⟨rfl, hB.out.trans (hB4.mono hB.out.size)⟩
        have hx := List.getElem?_eq_getElem hat'
        have hx0 := List.getElem?_eq_getElem hpos
        have hr7 : r ≤ 7 := by omega
        clear h8
        have hBh := hide hB
        go_upto_region 9 with (go_at_call 15; (with_reducible refine (hown.out _ hB).mono ?_); rintro e5 w5 ⟨⟨sv5, ps, rfl, hP5, hps⟩, hB5⟩; obtain ⟨g, c5, hsv, hg1, hg2, hc5⟩ := own_form1 hP5.row (by rw [← hps] at hpos; simpa using hpos); subst hsv; have hpl : ps.length = p.length := (by rw [← hps]; simp); rw [hpl] at hP5 hc5 ⊢; replace hpl := hide hpl; replace hps := hide hps; replace hP5 := hide hP5)
        obtain ⟨V5, hV5⟩ : ∃ V5, w5.alloc (.cells #[.slice (some ⟨g, 0, none⟩) p.length c5, .int .i64 win] 24) = V5 := ⟨_, rfl⟩
        rw [hV5]
        have hbx : Blk V5 w5.heap.size 24 #[.slice (some ⟨g, 0, none⟩) p.length c5, .int .i64 win] := by rw [← hV5]; exact Blk.new_ rfl _ _
        have hP : OwP V5 wr.heap.size (.slice (some ⟨g, 0, none⟩) p.length c5) ps := by rw [← hV5]; exact hP5.out.alloc_ _
        have hBV : Below wr.heap.size wr V5 := by rw [← hV5]; exact hB5.alloc hB5.size _
        have hgV : g < V5.heap.size := by rw [← hV5]; simp; omega
        have hzz := hB5.size
        clear hV5 hP5 hB5
        replace e0 := (hBV.cell (p := ⟨w.heap.size, 0, none⟩) hz).trans e0
        replace e1 := (hBV.cell (p := ⟨w.heap.size, 1, none⟩) hz).trans e1
        generalize w5.heap.size = B8 at *
        have hbl := hbx.lt
        have hgb : g ≠ B8 := by omega
        have hck := hide fun q win' sv w1 (h : RdS w1 w1.heap.size sv q) => check_any q win' sv w1 h
        replace hBV := hide hBV
        replace hB := hide hB
        have b0 := hbx.cell 0
        have b1 := hbx.cell 1
        have bf0 := hbx.frozen 0
        have bf1 := hbx.frozen 1
        simp at b0 b1
        replace hbx := hide hbx
        replace hP := hide hP
        clear hc20
        obtain rfl | rfl | rfl | rfl | rfl | rfl | rfl : r = 1 ∨ r = 2 ∨ r = 3 ∨ r = 4 ∨ r = 5 ∨ r = 6 ∨ r = 7 := by omega
        · have hv := one_1 hm.out n1 n2
          clear hx hx0
          have hw2 : IntKind.i64.wrap (1073741824 + n) = 1073741824 + n := IntWalk.i64_in _ (by omega)
          go_upto_region 25 with (fail)
          obtain ⟨W6, hW6⟩ : ∃ W6, V5.setCell ⟨B8, 1, none⟩ (.int .i64 (1073741824 + n)) = W6 := ⟨_, rfl⟩
          rw [hW6]
          have hrd : RdS W6 W6.heap.size (.slice (some ⟨g, 0, none⟩) p.length c5) (p) := by
            rw [← hW6]
            have := (hP.out.box hbx.out (by decide) (by decide) (j := 1) (.int .i64 (1073741824 + n))).rd
            rwa [hps.out] at this
          have y0 : W6.cell? ⟨B8, 0, none⟩ = some (.slice (some ⟨g, 0, none⟩) p.length c5) := by rw [← hW6]; simpa using (hbx.out.set_ 1 (.int .i64 (1073741824 + n))).cell 0
          have y1 : W6.cell? ⟨B8, 1, none⟩ = some (.int .i64 (1073741824 + n)) := by rw [← hW6]; simpa using (hbx.out.set_ 1 (.int .i64 (1073741824 + n))).cell 1
          have hBW : Below (w.heap.size + 1) V5 W6 := by rw [← hW6]; exact (Below.refl _ _).setCell (p := ⟨B8, 1, none⟩) (by show w.heap.size + 1 ≤ B8; omega) _
          have hchk := check_any (p) (1073741824 + n) _ W6 hrd
          rw [hv] at hchk
          simp only at hchk
          replace hchk := hide hchk
          have x0 := (hBW.cell (p := ⟨w.heap.size, 0, none⟩) (Nat.lt_succ_self _)).trans e0
          have x1 := (hBW.cell (p := ⟨w.heap.size, 1, none⟩) (Nat.lt_succ_self _)).trans e1
          have zV := hBV.out.size
          have zW := hBW.size
          have hB6 := hide ((hB.out.trans (hBV.out.mono hB.out.size)).trans (hBW.mono (by omega)))
          clear hrd hBW hW6 e0 e1 b0 b1 bf0 bf1
          go_wp2_with (go_at_call 28; (with_reducible refine (stayf (G := w.heap.size + 1) hchk.out (by omega)).mono ?_); rintro e7 w7 ⟨rfl, hc7, hf7, hz7, hB7⟩)
          exact ⟨⟨2, by omega, by omega, rfl, hB6.out.trans (hB7.out.mono (by omega)), (hc7 _ _ (by omega)).trans x0, (hc7 _ _ (by omega)).trans x1, by omega⟩, by simp [intOf]⟩
        · obtain ⟨s, hs⟩ : ∃ s, p[0]? = some s := ⟨_, hx0⟩
          have hv := one_2 hm.out hs
          clear hx hx0
          obtain ⟨u, hu⟩ := map_get hps.out hs
          obtain ⟨g', c', cur, e, -, -, hat6, hgb6, hsz6, -⟩ := OwR.at hP.out.row hu
          have eg : g = g' := by injection e with e1; injection e1 with e1; injection e1
          subst eg
          obtain ⟨d0, d1, d2, d3, d4, d5⟩ := hat6.c6
          simp only [Nat.zero_mul, Nat.zero_add] at d0 d1 d2 d3 d4 d5
          have df := (blk_cell hgb6 (0 * 6 + 4) (by omega)).2
          simp only [Nat.zero_mul, Nat.zero_add] at df
          clear e hat6 hgb6 hsz6
          go_upto_region 25 with (fail)
          obtain ⟨W6, hW6⟩ : ∃ W6, V5.setCell ⟨g, 4, none⟩ (.bool true) = W6 := ⟨_, rfl⟩
          rw [hW6]
          have hP6 : OwP W6 wr.heap.size (.slice (some ⟨g, 0, none⟩) p.length c5) (ps.set 0 ({ s with strict := true }, u)) := by
            rw [← hW6]
            have := hP.out.write (i := 0) (j := 4) (s' := { s with strict := true }) (u := .bool true) hu (by omega) (by rfl) (by rfl)
            simpa using this
          have hrd : RdS W6 W6.heap.size (.slice (some ⟨g, 0, none⟩) p.length c5) (p.set 0 { s with strict := true }) := by
            have := hP6.rd
            rwa [map_set_fst hps.out] at this
          have y0 : W6.cell? ⟨B8, 0, none⟩ = some (.slice (some ⟨g, 0, none⟩) p.length c5) := by rw [← hW6]; simpa using (hbx.out.far (p := ⟨g, 4, none⟩) (Ne.symm hgb) (.bool true)).cell 0
          have y1 : W6.cell? ⟨B8, 1, none⟩ = some (.int .i64 win) := by rw [← hW6]; simpa using (hbx.out.far (p := ⟨g, 4, none⟩) (Ne.symm hgb) (.bool true)).cell 1
          have hBW : Below (w.heap.size + 1) V5 W6 := by rw [← hW6]; exact (Below.refl _ _).setCell (p := ⟨g, 4, none⟩) (by show w.heap.size + 1 ≤ g; omega) _
          have hchk := check_any (p.set 0 { s with strict := true }) win _ W6 hrd
          rw [hv] at hchk
          clear hP6 d0 d1 d2 d3 d4 d5 df hu hs
          simp only at hchk
          replace hchk := hide hchk
          have x0 := (hBW.cell (p := ⟨w.heap.size, 0, none⟩) (Nat.lt_succ_self _)).trans e0
          have x1 := (hBW.cell (p := ⟨w.heap.size, 1, none⟩) (Nat.lt_succ_self _)).trans e1
          have zV := hBV.out.size
          have zW := hBW.size
          have hB6 := hide ((hB.out.trans (hBV.out.mono hB.out.size)).trans (hBW.mono (by omega)))
          clear hrd hBW hW6 e0 e1 b0 b1 bf0 bf1
          go_wp2_with (go_at_call 28; (with_reducible refine (stayf (G := w.heap.size + 1) hchk.out (by omega)).mono ?_); rintro e7 w7 ⟨rfl, hc7, hf7, hz7, hB7⟩)
          exact ⟨⟨3, by omega, by omega, rfl, hB6.out.trans (hB7.out.mono (by omega)), (hc7 _ _ (by omega)).trans x0, (hc7 _ _ (by omega)).trans x1, by omega⟩, by simp [intOf]⟩
        · obtain ⟨s, hs⟩ : ∃ s, p[at_]? = some s := ⟨_, hx⟩
          have hv := one_3 hm.out hs n1 n2
          clear hx hx0
          obtain ⟨u, hu⟩ := map_get hps.out hs
          obtain ⟨g', c', cur, e, -, -, hat6, hgb6, hsz6, -⟩ := OwR.at hP.out.row hu
          have eg : g = g' := by injection e with e1; injection e1 with e1; injection e1
          subst eg
          obtain ⟨d0, d1, d2, d3, d4, d5⟩ := hat6.c6
          have df := (blk_cell hgb6 (at_ * 6 + 1) (by omega)).2
          clear e hat6 hgb6 hsz6
          have hw2 : IntKind.i64.wrap (5 + n) = 5 + n := IntWalk.i64_in _ (by omega)
          go_upto_region 25 with (fail)
          obtain ⟨W6, hW6⟩ : ∃ W6, V5.setCell ⟨g, at_ * 6 + 1, none⟩ (.int .i64 (5 + n)) = W6 := ⟨_, rfl⟩
          rw [hW6]
          have hP6 : OwP W6 wr.heap.size (.slice (some ⟨g, 0, none⟩) p.length c5) (ps.set at_ ({ s with kind := 5 + n }, u)) := by
            rw [← hW6]
            have := hP.out.write (i := at_) (j := 1) (s' := { s with kind := 5 + n }) (u := .int .i64 (5 + n)) hu (by omega) (by rfl) (by rfl)
            simpa using this
          have hrd : RdS W6 W6.heap.size (.slice (some ⟨g, 0, none⟩) p.length c5) (p.set at_ { s with kind := 5 + n }) := by
            have := hP6.rd
            rwa [map_set_fst hps.out] at this
          have y0 : W6.cell? ⟨B8, 0, none⟩ = some (.slice (some ⟨g, 0, none⟩) p.length c5) := by rw [← hW6]; simpa using (hbx.out.far (p := ⟨g, at_ * 6 + 1, none⟩) (Ne.symm hgb) (.int .i64 (5 + n))).cell 0
          have y1 : W6.cell? ⟨B8, 1, none⟩ = some (.int .i64 win) := by rw [← hW6]; simpa using (hbx.out.far (p := ⟨g, at_ * 6 + 1, none⟩) (Ne.symm hgb) (.int .i64 (5 + n))).cell 1
          have hBW : Below (w.heap.size + 1) V5 W6 := by rw [← hW6]; exact (Below.refl _ _).setCell (p := ⟨g, at_ * 6 + 1, none⟩) (by show w.heap.size + 1 ≤ g; omega) _
          have hchk := check_any (p.set at_ { s with kind := 5 + n }) win _ W6 hrd
          rw [hv] at hchk
          clear hP6 d0 d1 d2 d3 d4 d5 df hu hs
          simp only at hchk
          replace hchk := hide hchk
          have x0 := (hBW.cell (p := ⟨w.heap.size, 0, none⟩) (Nat.lt_succ_self _)).trans e0
          have x1 := (hBW.cell (p := ⟨w.heap.size, 1, none⟩) (Nat.lt_succ_self _)).trans e1
          have zV := hBV.out.size
          have zW := hBW.size
          have hB6 := hide ((hB.out.trans (hBV.out.mono hB.out.size)).trans (hBW.mono (by omega)))
          clear hrd hBW hW6 e0 e1 b0 b1 bf0 bf1
          go_wp2_with (go_at_call 28; (with_reducible refine (stayf (G := w.heap.size + 1) hchk.out (by omega)).mono ?_); rintro e7 w7 ⟨rfl, hc7, hf7, hz7, hB7⟩)
          exact ⟨⟨4, by omega, by omega, rfl, hB6.out.trans (hB7.out.mono (by omega)), (hc7 _ _ (by omega)).trans x0, (hc7 _ _ (by omega)).trans x1, by omega⟩, by simp [intOf]⟩
        · have hv := one_4 hm.out n1 n2
          clear hx hx0
          have hw2 : IntKind.i64.wrap (1 + n) = 1 + n := IntWalk.i64_in _ (by omega)
          go_upto_region 25 with (at_builtin; refine app_sp (base := wr.heap.size) (ps := ps) (x := (⟨true, 0, 1, 1 + n, false, []⟩, .slice none 0 0)) (g := V5.heap.size) (.tmp 75) (.tmp 79) rfl rfl rfl rfl (own_alloc hP.out.row) (Blk.new_ rfl _ _) rfl (by have := hpl.out; omega) (by have := hBV.out.size; simp; omega) ?_; intro v6 w6 hrow6 hg6 hat6; obtain ⟨A6, k6, hv6⟩ := own_form hrow6; have hl6 : (ps ++ [((⟨true, 0, 1, 1 + n, false, []⟩, .slice none 0 0) : Sp × Value)]).length = p.length + 1 := (by have := hpl.out; simp; omega); rw [hl6] at hv6; subst hv6; replace hl6 := hide hl6; have hbx6 := hide ((hbx.out.alloc _).grown hg6 (hbx.out.ne_own hP.out.row (by decide))); have q0 := hbx6.out.cell 0; have qf := hbx6.out.frozen 0; replace hrow6 := hide hrow6; replace hg6 := hide hg6)
          obtain ⟨W6, hW6⟩ : ∃ W6, w6.setCell ⟨B8, 0, none⟩ (.slice A6 (p.length + 1) k6) = W6 := ⟨_, rfl⟩
          rw [hW6]
          have hP6 : OwP W6 wr.heap.size (.slice A6 (p.length + 1) k6) (ps ++ [(⟨true, 0, 1, 1 + n, false, []⟩, .slice none 0 0)]) := by
            rw [← hW6]
            have := ((hP.out.alloc_ _).push (OwC.nil _ _) (fun y _ => by cases y.2.ownBlock <;> simp [Value.ownBlock]) hrow6.out hg6.out).box hbx6.out (by decide) (by decide) (j := 0) (.slice A6 (p.length + 1) k6)
            exact this
          have hrd : RdS W6 W6.heap.size (.slice A6 (p.length + 1) k6) (p ++ [⟨true, 0, 1, 1 + n, false, []⟩]) := by
            have := hP6.rd
            rwa [List.map_append, hps.out] at this
          have y0 : W6.cell? ⟨B8, 0, none⟩ = some (.slice A6 (p.length + 1) k6) := by rw [← hW6]; simpa using (hbx6.out.set_ 0 (.slice A6 (p.length + 1) k6)).cell 0
          have y1 : W6.cell? ⟨B8, 1, none⟩ = some (.int .i64 win) := by rw [← hW6]; simpa using (hbx6.out.set_ 0 (.slice A6 (p.length + 1) k6)).cell 1
          have hBW : Below (w.heap.size + 1) V5 W6 := by
            rw [← hW6]
            have z9 := hBV.out.size
            exact (((Below.refl _ _).alloc (by omega) _).grown hg6.out (by simp; omega) (fun j e => by have : g = j := Option.some.inj e; omega)).setCell (p := ⟨B8, 0, none⟩) (by show w.heap.size + 1 ≤ B8; omega) _
          have hchk := check_any (p ++ [⟨true, 0, 1, 1 + n, false, []⟩]) win _ W6 hrd
          rw [hv] at hchk
          clear hP6 q0 qf hrow6 hg6 hbx6 hl6
          by_cases h66 : p.length = 6
          · rw [if_pos h66] at hchk
            have d66 : ((p.length : Int) == 6) = true := by simp; omega
            clear h66
            simp only at hchk
            replace hchk := hide hchk
            have x0 := (hBW.cell (p := ⟨w.heap.size, 0, none⟩) (Nat.lt_succ_self _)).trans e0
            have x1 := (hBW.cell (p := ⟨w.heap.size, 1, none⟩) (Nat.lt_succ_self _)).trans e1
            have zV := hBV.out.size
            have zW := hBW.size
            have hB6 := hide ((hB.out.trans (hBV.out.mono hB.out.size)).trans (hBW.mono (by omega)))
            clear hrd hBW hW6 e0 e1 b0 b1 bf0 bf1
            go_wp2_with (go_at_call 28; (with_reducible refine (stayf (G := w.heap.size + 1) hchk.out (by omega)).mono ?_); rintro e7 w7 ⟨rfl, hc7, hf7, hz7, hB7⟩)
            exact ⟨⟨5, by omega, by omega, rfl, hB6.out.trans (hB7.out.mono (by omega)), (hc7 _ _ (by omega)).trans x0, (hc7 _ _ (by omega)).trans x1, by omega⟩, by simp [intOf]⟩
          · rw [if_neg h66] at hchk
            have d66 : ((p.length : Int) == 6) = false := by simp; omega
            clear h66
            simp only at hchk
            replace hchk := hide hchk
            have x0 := (hBW.cell (p := ⟨w.heap.size, 0, none⟩) (Nat.lt_succ_self _)).trans e0
            have x1 := (hBW.cell (p := ⟨w.heap.size, 1, none⟩) (Nat.lt_succ_self _)).trans e1
            have zV := hBV.out.size
            have zW := hBW.size
            have hB6 := hide ((hB.out.trans (hBV.out.mono hB.out.size)).trans (hBW.mono (by omega)))
            clear hrd hBW hW6 e0 e1 b0 b1 bf0 bf1
            go_wp2_with (go_at_call 28; (with_reducible refine (stayf (G := w.heap.size + 1) hchk.out (by omega)).mono ?_); rintro e7 w7 ⟨rfl, hc7, hf7, hz7, hB7⟩)
            exact ⟨⟨5, by omega, by omega, rfl, hB6.out.trans (hB7.out.mono (by omega)), (hc7 _ _ (by omega)).trans x0, (hc7 _ _ (by omega)).trans x1, by omega⟩, by simp [intOf]⟩
        · obtain ⟨s, hs⟩ : ∃ s, p[0]? = some s := ⟨_, hx0⟩
          have hv := one_5 hm.out hs
          clear hx hx0
          obtain ⟨u, hu⟩ := map_get hps.out hs
          obtain ⟨g', c', cur, e, -, -, hat6, hgb6, hsz6, -⟩ := OwR.at hP.out.row hu
          have eg : g = g' := by injection e with e1; injection e1 with e1; injection e1
          subst eg
          obtain ⟨d0, d1, d2, d3, d4, d5⟩ := hat6.c6
          simp only [Nat.zero_mul, Nat.zero_add] at d0 d1 d2 d3 d4 d5
          have df := (blk_cell hgb6 (0 * 6 + 3) (by omega)).2
          simp only [Nat.zero_mul, Nat.zero_add] at df
          clear e hat6 hgb6 hsz6
          go_upto_region 25 with (fail)
          obtain ⟨W6, hW6⟩ : ∃ W6, V5.setCell ⟨g, 3, none⟩ (.int .i64 0) = W6 := ⟨_, rfl⟩
          rw [hW6]
          have hP6 : OwP W6 wr.heap.size (.slice (some ⟨g, 0, none⟩) p.length c5) (ps.set 0 ({ s with max := 0 }, u)) := by
            rw [← hW6]
            have := hP.out.write (i := 0) (j := 3) (s' := { s with max := 0 }) (u := .int .i64 0) hu (by omega) (by rfl) (by rfl)
            simpa using this
          have hrd : RdS W6 W6.heap.size (.slice (some ⟨g, 0, none⟩) p.length c5) (p.set 0 { s with max := 0 }) := by
            have := hP6.rd
            rwa [map_set_fst hps.out] at this
          have y0 : W6.cell? ⟨B8, 0, none⟩ = some (.slice (some ⟨g, 0, none⟩) p.length c5) := by rw [← hW6]; simpa using (hbx.out.far (p := ⟨g, 3, none⟩) (Ne.symm hgb) (.int .i64 0)).cell 0
          have y1 : W6.cell? ⟨B8, 1, none⟩ = some (.int .i64 win) := by rw [← hW6]; simpa using (hbx.out.far (p := ⟨g, 3, none⟩) (Ne.symm hgb) (.int .i64 0)).cell 1
          have hBW : Below (w.heap.size + 1) V5 W6 := by rw [← hW6]; exact (Below.refl _ _).setCell (p := ⟨g, 3, none⟩) (by show w.heap.size + 1 ≤ g; omega) _
          have hchk := check_any (p.set 0 { s with max := 0 }) win _ W6 hrd
          rw [hv] at hchk
          clear hP6 d0 d1 d2 d3 d4 d5 df hu hs
          simp only at hchk
          replace hchk := hide hchk
          have x0 := (hBW.cell (p := ⟨w.heap.size, 0, none⟩) (Nat.lt_succ_self _)).trans e0
          have x1 := (hBW.cell (p := ⟨w.heap.size, 1, none⟩) (Nat.lt_succ_self _)).trans e1
          have zV := hBV.out.size
          have zW := hBW.size
          have hB6 := hide ((hB.out.trans (hBV.out.mono hB.out.size)).trans (hBW.mono (by omega)))
          clear hrd hBW hW6 e0 e1 b0 b1 bf0 bf1
          go_wp2_with (go_at_call 28; (with_reducible refine (stayf (G := w.heap.size + 1) hchk.out (by omega)).mono ?_); rintro e7 w7 ⟨rfl, hc7, hf7, hz7, hB7⟩)
          exact ⟨⟨6, by omega, by omega, rfl, hB6.out.trans (hB7.out.mono (by omega)), (hc7 _ _ (by omega)).trans x0, (hc7 _ _ (by omega)).trans x1, by omega⟩, by simp [intOf]⟩
        · have hz9 := hBV.out.size
          have hP0 : OwP V5 wr.heap.size (.slice (some ⟨g, 0, none⟩) p.length c5) ps := hP.out
          have hw6 := hide hm.out
          clear hx hx0
          go_upto_region 21 with (fail)
          obtain ⟨wq, hwq⟩ : ∃ wq : World, wq = wr := ⟨_, rfl⟩
          go_loopw [90] (fun _ wv => ∃ (c : Nat) (Aq : Option Addr) (kq : Nat) (qs : List (Sp × Value)), p.length ≤ c ∧ c ≤ 6 ∧ Blk wv B8 24 #[.slice Aq c kq, .int .i64 win] ∧ OwP wv wq.heap.size (.slice Aq c kq) qs ∧ Hid (qs.map (·.1) = p ++ List.replicate (c - p.length) ⟨false, 0, 1, 3, false, []⟩) ∧ Below (w.heap.size + 1) V5 wv) (fun _ wv => 6 - lenAt wv B8)
          case atStart => exact ⟨p.length, _, _, ps, Nat.le_refl _, h6, hbx.out, by rw [hwq]; exact hP0, hide (by rw [hps.out]; simp), Below.refl _ _⟩
          case round =>
            obtain ⟨c, Aq, kq, qs, hc1, hc2, hbq, hPq, hqs, hBq⟩ := hrel
            have y0 := hbq.cell 0
            have y1 := hbq.cell 1
            have yf := hbq.frozen 0
            have hlq : lenAt wr B8 = c := by unfold lenAt; rw [y0]; rfl
            have hql : qs.length = c := by have := congrArg List.length hqs.out; simp at this; omega
            simp at y0 y1
            clear b0 b1 bf0 bf1
            by_cases hlt : c < 6
            · have hlt' : (c : Int) < 6 := by omega
              replace hbq := hide hbq
              replace hPq := hide hPq
              replace hql := hide hql
              replace hlq := hide hlq
              replace hBq := hide hBq
              have zq := hBq.out.size
              go_wp2_with (at_builtin; refine app_sp (base := wq.heap.size) (ps := qs) (x := (⟨false, 0, 1, 3, false, []⟩, .slice none 0 0)) (g := wr.heap.size) (.tmp 95) (.tmp 97) rfl rfl rfl rfl (own_alloc hPq.out.row) (Blk.new_ rfl _ _) rfl (by have := hql.out; omega) (by rw [hwq]; simp; omega) ?_; intro v6 w6 hrow6 hg6 hat6; obtain ⟨A6, k6, hv6⟩ := own_form hrow6; have hl6 : (qs ++ [((⟨false, 0, 1, 3, false, []⟩, .slice none 0 0) : Sp × Value)]).length = c + 1 := (by have := hql.out; simp; omega); rw [hl6] at hv6; subst hv6; replace hl6 := hide hl6; have hbx6 := hide ((hbq.out.alloc _).grown hg6 (hbq.out.ne_own hPq.out.row (by decide))); have q0 := hbx6.out.cell 0; have qf := hbx6.out.frozen 0; replace hrow6 := hide hrow6; replace hg6 := hide hg6)
              have hbx7 : Blk (w6.setCell ⟨B8, 0, none⟩ (.slice A6 (c + 1) k6)) B8 24 #[.slice A6 (c + 1) k6, .int .i64 win] := hbx6.out.set_ 0 _
              refine ⟨⟨c + 1, A6, k6, qs ++ [(⟨false, 0, 1, 3, false, []⟩, .slice none 0 0)], by omega, by omega, hbx7, ?_, ?_, ?_⟩, ?_⟩
              · exact ((hPq.out.alloc_ _).push (OwC.nil _ _) (fun y _ => by cases y.2.ownBlock <;> simp [Value.ownBlock]) hrow6.out hg6.out).box hbx6.out (by decide) (by decide) (j := 0) (.slice A6 (c + 1) k6)
              · refine hide ?_
                rw [List.map_append, hqs.out, show c + 1 - p.length = (c - p.length) + 1 by omega, List.replicate_succ']
                simp
              · exact ((hBq.out.alloc (by omega) _).grown hg6.out (by simp; omega) (fun j e => by have := (hPq.out.ownlt j e).1; rw [hwq] at this; omega)).setCell (p := ⟨B8, 0, none⟩) (by show w.heap.size + 1 ≤ B8; omega) _
              · have e7 : lenAt (w6.setCell ⟨B8, 0, none⟩ (.slice A6 (c + 1) k6)) B8 = c + 1 := by
                  unfold lenAt
                  rw [hbx7.cell 0]
                  rfl
                rw [e7, hlq.out]
                omega
            · obtain rfl : c = 6 := by omega
              have hrd : RdS wr wr.heap.size (.slice Aq 6 kq) (p ++ List.replicate (6 - p.length) ⟨false, 0, 1, 3, false, []⟩) := by
                have := hPq.rd
                rwa [hqs.out] at this
              clear hlq hql hPq hbq hqs hc1 hc2 hlt hP0
              subst hwq
              have hBW := hBq
              have hW6 := hide hBq
              have hchk := check_any (p ++ List.replicate (6 - p.length) ⟨false, 0, 1, 3, false, []⟩) win _ wr hrd
              have b0 := hide y0
              have b1 := hide y0
              have bf0 := hide y0
              have bf1 := hide y0
              by_cases h44 : p.length ≤ 4
              · rw [one_6 hm.out h44] at hchk
                have d5 : decide (5 ≤ (p.length : Int)) = false := by simp; omega
                have d5' : ¬ (5 ≤ (p.length : Int)) := by omega
                simp only at hchk
                replace hchk := hide hchk
                have x0 := (hBW.cell (p := ⟨w.heap.size, 0, none⟩) (Nat.lt_succ_self _)).trans e0
                have x1 := (hBW.cell (p := ⟨w.heap.size, 1, none⟩) (Nat.lt_succ_self _)).trans e1
                have zV := hBV.out.size
                have zW := hBW.size
                have hB6 := hide ((hB.out.trans (hBV.out.mono hB.out.size)).trans (hBW.mono (by omega)))
                clear hrd hBW hW6 e0 e1 b0 b1 bf0 bf1
                go_wp2_with (go_at_call 28; (with_reducible refine (stayf (G := w.heap.size + 1) hchk.out (by omega)).mono ?_); rintro e7 w7 ⟨rfl, hc7, hf7, hz7, hB7⟩)
                exact ⟨⟨7, by omega, by omega, rfl, hB6.out.trans (hB7.out.mono (by omega)), (hc7 _ _ (by omega)).trans x0, (hc7 _ _ (by omega)).trans x1, by omega⟩, by simp [intOf]⟩
              · have d5' : 5 ≤ (p.length : Int) := by omega
                generalize checkF (p ++ List.replicate (6 - p.length) ⟨false, 0, 1, 3, false, []⟩) win = t7 at *
                obtain ⟨t71, t72, t73⟩ := t7
                simp only at hchk
                replace hchk := hide hchk
                have x0 := (hBW.cell (p := ⟨w.heap.size, 0, none⟩) (Nat.lt_succ_self _)).trans e0
                have x1 := (hBW.cell (p := ⟨w.heap.size, 1, none⟩) (Nat.lt_succ_self _)).trans e1
                have zV := hBV.out.size
                have zW := hBW.size
                have hB6 := hide ((hB.out.trans (hBV.out.mono hB.out.size)).trans (hBW.mono (by omega)))
                clear hrd hBW hW6 e0 e1 b0 b1 bf0 bf1
                go_wp2_with (go_at_call 28; (with_reducible refine (stayf (G := w.heap.size + 1) hchk.out (by omega)).mono ?_); rintro e7 w7 ⟨rfl, hc7, hf7, hz7, hB7⟩)
                exact ⟨⟨7, by omega, by omega, rfl, hB6.out.trans (hB7.out.mono (by omega)), (hc7 _ _ (by omega)).trans x0, (hc7 _ _ (by omega)).trans x1, by omega⟩, by simp [intOf]⟩
        · obtain ⟨s, hs⟩ : ∃ s, p[at_]? = some s := ⟨_, hx⟩
          have hv := one_7 hm.out hs
          have hcm := (may_step hm.out hs).cl
          clear hx hx0
          obtain ⟨u, hu⟩ := map_get hps.out hs
          obtain ⟨g', c', cur, e, -, -, hat6, hgb6, hsz6, -⟩ := OwR.at hP.out.row hu
          have eg : g = g' := by injection e with e1; injection e1 with e1; injection e1
          subst eg
          have hou : OwC V5 wr.heap.size u s.cmps := hP.out.cmps (s, u) (List.mem_of_getElem? hu)
          have gne : some g ≠ u.ownBlock := fun e => by
            rcases own_ne hP.out.row hou.1 (by decide) with e1 | e1
            · simp [Value.ownBlock] at e1
            · exact e1 (by rw [← e]; rfl)
          obtain ⟨d0, d1, d2, d3, d4, d5⟩ := hat6.c6
          obtain ⟨Au, ku, hue⟩ := own_form hou.1
          subst hue
          replace gne := hide gne
          replace hou := hide hou
          replace hgb6 := hide hgb6
          have hw2 : IntKind.i64.wrap ((at_ : Int) + 1) = (at_ : Int) + 1 := IntWalk.i64_in _ (by omega)
          clear e hat6 d0 d1 d2 d3 d4
          go_upto_region 25 with (at_builtin; refine app_cm (base := wr.heap.size) (cs := s.cmps) (x := ⟨3, ⟨2, 0, (at_ : Int) + 1, 0⟩, ⟨0, 0, 0, 0⟩⟩) (g := V5.heap.size) (.tmp 106) (.tmp 111) rfl rfl rfl rfl (hou.out.alloc_ _) (Blk.new_ rfl _ _) (by simp) (by omega) (by have := hBV.out.size; simp; omega) ?_; intro v6 w6 ho6 hg6 hat6; have hgb7 : Hid (w6.heap[g]? = some (.cells cur 30 (0, 0))) := hide (Eq.trans (hg6.block g (by simp; omega) gne.out) (Eq.trans (Below.heap_alloc V5 _ g hgV) hgb6.out)); obtain ⟨⟨q5, d9⟩, df⟩ := blk_cell hgb7.out (at_ * 6 + 5) hsz6; obtain ⟨A6, k6, hv6⟩ := own_form ho6.1; have hl6 : (s.cmps ++ [(⟨3, ⟨2, 0, (at_ : Int) + 1, 0⟩, ⟨0, 0, 0, 0⟩⟩ : Cm)]).length = s.cmps.length + 1 := (by rw [List.length_append]; rfl); rw [hl6] at hv6; subst hv6; replace hl6 := hide hl6; replace ho6 := hide ho6; replace hg6 := hide hg6)
          obtain ⟨W6, hW6⟩ : ∃ W6, w6.setCell ⟨g, at_ * 6 + 5, none⟩ (.slice A6 (s.cmps.length + 1) k6) = W6 := ⟨_, rfl⟩
          rw [hW6]
          have hP6 : OwP W6 wr.heap.size (.slice (some ⟨g, 0, none⟩) p.length c5) (ps.set at_ ({ s with cmps := s.cmps ++ [⟨3, ⟨2, 0, at_ + 1, 0⟩, ⟨0, 0, 0, 0⟩⟩] }, .slice A6 (s.cmps.length + 1) k6)) := by
            rw [← hW6]
            exact (hP.out.alloc_ _).cmps_set hu ho6.out ⟨rfl, rfl, rfl, rfl, rfl⟩ hg6.out hat6
          have hrd : RdS W6 W6.heap.size (.slice (some ⟨g, 0, none⟩) p.length c5) (p.set at_ { s with cmps := s.cmps ++ [⟨3, ⟨2, 0, at_ + 1, 0⟩, ⟨0, 0, 0, 0⟩⟩] }) := by
            have := hP6.rd
            rwa [map_set_fst hps.out] at this
          have zV9 := hBV.out.size
          have hbx6 := ((hbx.out.alloc (.cells #[.int .u8 3, .int .u8 2, .int .i64 0, .int .i64 ((at_ : Int) + 1), .int .i64 0, .int .u8 0, .int .i64 0, .int .i64 0, .int .i64 0] 36)).grown hg6.out (hbx.out.ne_own hou.out.1 (by decide))).far (p := ⟨g, at_ * 6 + 5, none⟩) (Ne.symm hgb) (.slice A6 (s.cmps.length + 1) k6)
          rw [hW6] at hbx6
          have y0 : W6.cell? ⟨B8, 0, none⟩ = some (.slice (some ⟨g, 0, none⟩) p.length c5) := by simpa using hbx6.cell 0
          have y1 : W6.cell? ⟨B8, 1, none⟩ = some (.int .i64 win) := by simpa using hbx6.cell 1
          have hBW : Below (w.heap.size + 1) V5 W6 := by
            rw [← hW6]
            exact (((Below.refl _ _).alloc (by omega) _).grown hg6.out (by simp; omega) (fun j e => by have := (World.ownsRow.lt hou.out.1 j e).1; omega)).setCell (p := ⟨g, at_ * 6 + 5, none⟩) (by show w.heap.size + 1 ≤ g; omega) _
          have hchk := check_any (p.set at_ { s with cmps := s.cmps ++ [⟨3, ⟨2, 0, at_ + 1, 0⟩, ⟨0, 0, 0, 0⟩⟩] }) win _ W6 hrd
          rw [hv] at hchk
          clear hP6 hl6 d5 d9 df hu hs hou gne hgb6 hgb7 ho6 hg6 hbx6
          simp only at hchk
          replace hchk := hide hchk
          have x0 := (hBW.cell (p := ⟨w.heap.size, 0, none⟩) (Nat.lt_succ_self _)).trans e0
          have x1 := (hBW.cell (p := ⟨w.heap.size, 1, none⟩) (Nat.lt_succ_self _)).trans e1
          have zV := hBV.out.size
          have zW := hBW.size
          have hB6 := hide ((hB.out.trans (hBV.out.mono hB.out.size)).trans (hBW.mono (by omega)))
          clear hrd hBW hW6 e0 e1 b0 b1 bf0 bf1
          go_wp2_with (go_at_call 28; (with_reducible refine (stayf (G := w.heap.size + 1) hchk.out (by omega)).mono ?_); rintro e7 w7 ⟨rfl, hc7, hf7, hz7, hB7⟩)
          exact ⟨⟨8, by omega, by omega, rfl, hB6.out.trans (hB7.out.mono (by omega)), (hc7 _ _ (by omega)).trans x0, (hc7 _ _ (by omega)).trans x1, by omega⟩, by simp [intOf]⟩
end Go.Proofs.Ytidddeobachjgaa
