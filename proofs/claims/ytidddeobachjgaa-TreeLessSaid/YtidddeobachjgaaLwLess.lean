/- The law TreeLess: its walk. -/
import Derived.Test.YtidddeobachjgaaWkT
import Derived.Test.YtidddeobachjgaaLlA
import Derived.Test.YtidddeobachjgaaLibQ
import Derived.Test.YtidddeobachjgaaLibY
import Derived.Test.YtidddeobachjgaaTrF
import Derived.StillTailTactics
import Derived.Deep.CutRange
namespace Go.Proofs.Ytidddeobachjgaa
open Go.RowKit
attribute [local go_sem] grown_cell grown_frozen

/-- Which step is meant. -/
theorem at_val8 (a m : Int) (h0 : 0 < m) : -m < a.tmod m ∧ a.tmod m < m ∧ ∃ k : Nat, (k : Int) < m ∧ (a.tmod m + m).tmod m = k := by
  have h1 : -m < a.tmod m := by
    have := Int.lt_tmod_of_pos a h0
    omega
  have h2 : a.tmod m < m := Int.tmod_lt_of_pos a h0
  refine ⟨h1, h2, ((a.tmod m + m).tmod m).toNat, ?_, ?_⟩
  · have h3 := Int.tmod_lt_of_pos (a.tmod m + m) h0
    have h4 : 0 ≤ (a.tmod m + m).tmod m := Int.tmod_nonneg _ (by omega)
    omega
  · have h4 : 0 ≤ (a.tmod m + m).tmod m := Int.tmod_nonneg _ (by omega)
    omega

set_option maxRecDepth 100000 in
set_option maxHeartbeats 16000000 in
theorem treeLess_walk (p : List Sp) (win a0 n : Int) (v : Value) (w : World) (h : RdS w w.heap.size v p) :
    Calls Try.prog 3 #[ptV v win, .int .i64 a0, .int .i64 n] w fun e w' => e = .returned (.bool true) ∧ Below w.heap.size w w' := by
  have hgr := hide fun w1 (hb : Below w.heap.size w w1) => great_any p win v w1 (h.below hb hb.size)
  have hmy := hide fun w1 (hb : Below w.heap.size w w1) => rright_any p win v w1 (h.below hb hb.size)
  have hsz := RdL.lenle h
  cases hg : greatB p with
  | true =>
    rw [hg] at hgr
    obtain ⟨A, cap, rfl⟩ := h.len
    clear h hmy hg
    go_enter Try.func3, Try.ntmps3
    have hX := hide ((Below.refl w.heap.size w).alloc (Nat.le_refl _) (.cells #[.slice A p.length cap, .int .i64 win] 24))
    go_wp2_with (first | (go_at_call 12; (with_reducible refine (stayf (G := w.heap.size + 1) (hgr.out _ hX.out) (by simp)).mono ?_); rintro e w1 ⟨rfl, hc1, hf1, hz1, hB1⟩) | (go_at_call 14; (with_reducible refine (wakes08_true _).mono ?_); rintro e w2 ⟨rfl, hB2⟩))
    go_ret
    exact ⟨rfl, (hX.out.trans (hB1.out.mono (by omega))).trans (hB2.mono (by omega))⟩
  | false =>
    rw [hg] at hgr
    obtain ⟨h40, hc20⟩ := great_no hg
    clear hg
    cases hm : rightB p win with
    | false =>
      rw [hm] at hmy
      obtain ⟨A, cap, rfl⟩ := h.len
      clear h hm h40 hc20
      go_enter Try.func3, Try.ntmps3
      have hX := hide ((Below.refl w.heap.size w).alloc (Nat.le_refl _) (.cells #[.slice A p.length cap, .int .i64 win] 24))
      go_wp2_with (first | (go_at_call 12; (with_reducible refine (stayf (G := w.heap.size + 1) (hgr.out _ hX.out) (by simp)).mono ?_); rintro e1 w1 ⟨rfl, hc1, hf1, hz1, hB1⟩; have hX1 := hide (hX.out.trans (hB1.out.mono (by omega)))) | (go_at_call 13; (with_reducible refine (stayf (G := w.heap.size + 1) (hmy.out _ hX1.out) hz1).mono ?_); rintro e1 w2 ⟨rfl, hc2, hf2', hz2, hB2⟩; have hX2 := hide (hX1.out.trans (hB2.out.mono (by omega)))) | (go_at_call 14; (with_reducible refine (wakes08_true _).mono ?_); rintro e1 w4 ⟨rfl, hB4⟩))
      go_ret
      exact ⟨rfl, hX2.out.trans (hB4.mono hX2.out.size)⟩
    | true =>
      rw [hm] at hmy
      by_cases n1 : n < 1
      · obtain ⟨A, cap, rfl⟩ := h.len
        clear h hm h40 hc20
        go_enter Try.func3, Try.ntmps3
        have hX := hide ((Below.refl w.heap.size w).alloc (Nat.le_refl _) (.cells #[.slice A p.length cap, .int .i64 win] 24))
        go_wp2_with (first | (go_at_call 12; (with_reducible refine (stayf (G := w.heap.size + 1) (hgr.out _ hX.out) (by simp)).mono ?_); rintro e1 w1 ⟨rfl, hc1, hf1, hz1, hB1⟩; have hX1 := hide (hX.out.trans (hB1.out.mono (by omega)))) | (go_at_call 13; (with_reducible refine (stayf (G := w.heap.size + 1) (hmy.out _ hX1.out) hz1).mono ?_); rintro e1 w2 ⟨rfl, hc2, hf2', hz2, hB2⟩; have hX2 := hide (hX1.out.trans (hB2.out.mono (by omega)))) | (go_at_call 14; (with_reducible refine (wakes08_true _).mono ?_); rintro e1 w4 ⟨rfl, hB4⟩))
        go_ret
        exact ⟨rfl, hX2.out.trans (hB4.mono hX2.out.size)⟩
      by_cases n2 : 1000 < n
      · obtain ⟨A, cap, rfl⟩ := h.len
        clear h hm h40 hc20
        go_enter Try.func3, Try.ntmps3
        have hX := hide ((Below.refl w.heap.size w).alloc (Nat.le_refl _) (.cells #[.slice A p.length cap, .int .i64 win] 24))
        go_wp2_with (first | (go_at_call 12; (with_reducible refine (stayf (G := w.heap.size + 1) (hgr.out _ hX.out) (by simp)).mono ?_); rintro e1 w1 ⟨rfl, hc1, hf1, hz1, hB1⟩; have hX1 := hide (hX.out.trans (hB1.out.mono (by omega)))) | (go_at_call 13; (with_reducible refine (stayf (G := w.heap.size + 1) (hmy.out _ hX1.out) hz1).mono ?_); rintro e1 w2 ⟨rfl, hc2, hf2', hz2, hB2⟩; have hX2 := hide (hX1.out.trans (hB2.out.mono (by omega)))) | (go_at_call 14; (with_reducible refine (wakes08_true _).mono ?_); rintro e1 w4 ⟨rfl, hB4⟩))
        go_ret
        exact ⟨rfl, hX2.out.trans (hB4.mono hX2.out.size)⟩
      replace n1 := Int.not_lt.1 n1
      replace n2 := Int.not_lt.1 n2
      obtain ⟨hpos, h26, -, -⟩ := right_all.1 hm
      have hown := hide fun w1 (hb : Below w.heap.size w w1) => rown_any p win v w1 (h.below hb hb.size) (by omega) (fun s hs => by have := hc20 s hs; omega)
      have htr := hide fun w1 (hb : Below w.heap.size w w1) => right_any p win v w1 (h.below hb hb.size)
      rw [hm] at htr
      have hts := hide fun w1 (hb : Below w.heap.size w w1) => size_any p win v w1 (h.below hb hb.size) (by omega) (fun s hs => by have := hc20 s hs; omega)
      have hsm := hide fun w1 (hb : Below w.heap.size w w1) => h.below hb hb.size
      obtain ⟨A, cap, rfl⟩ := h.len
      have hpos' : (0 : Int) < p.length := by omega
      have h26' : (p.length : Int) ≤ 26 := by omega
      replace hm := hide hm
      replace hc20 := hide hc20
      clear h
      go_enter Try.func3, Try.ntmps3
      have hX := hide ((Below.refl w.heap.size w).alloc (Nat.le_refl _) (.cells #[.slice A p.length cap, .int .i64 win] 24))
      go_upto_region 3 with (first | (go_at_call 12; (with_reducible refine (stayf (G := w.heap.size + 1) (hgr.out _ hX.out) (by simp)).mono ?_); rintro e1 w1 ⟨rfl, hc1, hf1, hz1, hB1⟩; have hX1 := hide (hX.out.trans (hB1.out.mono (by omega)))) | (go_at_call 13; (with_reducible refine (stayf (G := w.heap.size + 1) (hmy.out _ hX1.out) hz1).mono ?_); rintro e1 w2 ⟨rfl, hc2, hf2', hz2, hB2⟩; have hX2 := hide (hX1.out.trans (hB2.out.mono (by omega)))))
      have e0 : w2.cell? ⟨w.heap.size, 0, none⟩ = some (.slice A p.length cap) := by rw [hc2 _ _ (by omega), hc1 _ _ (by omega)]; simp
      have e1 : w2.cell? ⟨w.heap.size, 1, none⟩ = some (.int .i64 win) := by rw [hc2 _ _ (by omega), hc1 _ _ (by omega)]; simp
      have hz : w.heap.size < w2.heap.size := hz2
      replace hX2 := hX2.out
      clear hc1 hc2 hf1 hf2' hB1 hB2 hX1 hX hz1 hz2 hgr hmy
      obtain ⟨q1, q2, at_, hat, hav⟩ := at_val8 a0 p.length hpos'
      have hw1 : IntKind.i64.wrap (a0.tmod p.length + p.length) = a0.tmod p.length + p.length := IntWalk.i64_in _ (by omega)
      clear q1 q2
      go_quiet (fail)
      clear hw1 hav
      have hat' : at_ < p.length := by omega
      replace hX2 := bdrewN hX2 nq
      replace hz : w.heap.size < (w2.drewN nq).heap.size := hz
      replace e0 : (w2.drewN nq).cell? ⟨w.heap.size, 0, none⟩ = some (.slice A p.length cap) := e0
      replace e1 : (w2.drewN nq).cell? ⟨w.heap.size, 1, none⟩ = some (.int .i64 win) := e1
      generalize w2.drewN nq = V at *
      have hXh := hide hX2
      have hw2 : IntKind.i64.wrap ((at_ : Int) + 1) = (at_ : Int) + 1 := IntWalk.i64_in _ (by omega)
      go_upto_region 5 with (go_at_call 15; (with_reducible refine (hown.out _ hX2).mono ?_); rintro e5 w5 ⟨⟨sv5, ps, rfl, hP5, hps⟩, hB5⟩; obtain ⟨g, c5, hsv, hg1, hg2, hc5⟩ := own_form1 hP5.row (by rw [← hps] at hpos; simpa using hpos); subst hsv; have hpl : ps.length = p.length := (by rw [← hps]; simp); rw [hpl] at hP5 hc5 ⊢; replace hpl := hide hpl; replace hps := hide hps; replace hP5 := hide hP5)
      obtain ⟨V5, hV5⟩ : ∃ V5, w5.alloc (.cells #[.slice (some ⟨g, 0, none⟩) p.length c5, .int .i64 win] 24) = V5 := ⟨_, rfl⟩
      rw [hV5]
      have hbx : Blk V5 w5.heap.size 24 #[.slice (some ⟨g, 0, none⟩) p.length c5, .int .i64 win] := by rw [← hV5]; exact Blk.new_ rfl _ _
      have hP : OwP V5 V.heap.size (.slice (some ⟨g, 0, none⟩) p.length c5) ps := by rw [← hV5]; exact hP5.out.alloc_ _
      have hBV : Below V.heap.size V V5 := by rw [← hV5]; exact hB5.alloc hB5.size _
      have hgV : g < V5.heap.size := by rw [← hV5]; simp; omega
      have hzz := hB5.size
      clear hV5 hP5 hB5
      replace e0 := (hBV.cell (p := ⟨w.heap.size, 0, none⟩) hz).trans e0
      replace e1 := (hBV.cell (p := ⟨w.heap.size, 1, none⟩) hz).trans e1
      generalize w5.heap.size = B8 at *
      have hbl := hbx.lt
      have hgb : g ≠ B8 := by intro e; subst e; have h1 := hP.row.2; rcases h1 with ⟨h1, -⟩ | ⟨g', cap', cur, e1, -, hh, -⟩
                              · cases h1
                              · have e2 : g = g' := by injection e1 with e1; injection e1 with e1; injection e1
                                subst e2
                                have := (show V5.heap[g]? = _ from hbx).symm.trans hh
                                simp at this
      have b0 := hbx.cell 0
      have b1 := hbx.cell 1
      have bf0 := hbx.frozen 0
      have bf1 := hbx.frozen 1
      simp at b0 b1
      replace hbx := hide hbx
      replace hP := hide hP
      replace hBV := hide hBV
      go_upto_region 6 with (fail)
      obtain ⟨W6, hW6⟩ : ∃ W6, V5.setCell ⟨B8, 0, none⟩ (.slice (some ⟨g, 0, none⟩) (at_ + 1) c5) = W6 := ⟨_, rfl⟩
      rw [hW6]
      have hP6 : OwP W6 V.heap.size (.slice (some ⟨g, 0, none⟩) p.length c5) ps := by
        rw [← hW6]
        exact hP.out.box hbx.out (by decide) (by decide) (j := 0) _
      have hbx6 : Blk W6 B8 24 #[.slice (some ⟨g, 0, none⟩) (at_ + 1) c5, .int .i64 win] := by
        rw [← hW6]
        simpa using hbx.out.set_ 0 (.slice (some ⟨g, 0, none⟩) (at_ + 1) c5)
      have hBW : Below (w.heap.size + 1) V5 W6 := by rw [← hW6]; exact (Below.refl _ _).setCell (p := ⟨B8, 0, none⟩) (by show w.heap.size + 1 ≤ B8; omega) _
      have hgW : g < W6.heap.size := Nat.lt_of_lt_of_le hgV hBW.size
      clear b0 b1 bf0 bf1 hW6 hw2
      have y0 := hbx6.cell 0
      have y1 := hbx6.cell 1
      simp at y0 y1
      replace hbx6 := hide hbx6
      have hx := List.getElem?_eq_getElem hat'
      obtain ⟨s, hs⟩ : ∃ s, p[at_]? = some s := ⟨_, hx⟩
      clear hx
      obtain ⟨u, hu⟩ := map_get hps.out hs
      obtain ⟨g', c', cur, e, -, -, hat6, hgb6, hsz6, -⟩ := OwR.at hP6.row hu
      have eg : g = g' := by injection e with e1; injection e1 with e1; injection e1
      subst eg
      have hou : OwC W6 V.heap.size u s.cmps := hP6.cmps (s, u) (List.mem_of_getElem? hu)
      obtain ⟨d0, d1, d2, d3, d4, d5⟩ := hat6.c6
      obtain ⟨⟨-, -⟩, df⟩ := blk_cell hgb6 (at_ * 6 + 5) hsz6
      have hok : s.cmps.length ≤ 9223372036854775807 := RdL.lenle hou.rd
      have hkc : ∃ Au ku, u = .slice Au s.cmps.length ku ∧ s.cmps.length ≤ ku := by
        obtain ⟨A', cap', b', off', h1, h2, -⟩ := hou.rd
        exact ⟨_, _, h1, h2⟩
      obtain ⟨Au, ku, rfl, hku⟩ := hkc
      obtain ⟨m, hm1, hm2⟩ : ∃ m : Nat, min (s.cmps.length : Int) (n - 1) = m ∧ m ≤ s.cmps.length := ⟨(min (s.cmps.length : Int) (n - 1)).toNat, by omega, by omega⟩
      have hw3 : IntKind.i64.wrap (n - 1) = n - 1 := IntWalk.i64_in _ (by omega)
      replace hP6 := hide hP6
      replace hou := hide hou
      replace hgb6 := hide hgb6
      replace hu := hide hu
      replace hs := hide hs
      clear e hat6 d0 d1 d2 d3 d4 hP hbx
      have hat1 : (at_ : Int) < (at_ : Int) + 1 := by omega
      have hm3 : m ≤ ku := by omega
      go_still_tail 22, (by kernel_rfl)
      change wpList _ _ _ _ _ W6.drew
      obtain ⟨W7, hW7⟩ : ∃ W7, W6.drew = W7 := ⟨_, rfl⟩
      rw [hW7]
      have hBd : Below W6.heap.size W6 W7 := by rw [← hW7]; exact ⟨rfl, rfl, rfl, Nat.le_refl _, fun _ _ => rfl⟩
      have hP7 := hide (hP6.out.below hBd (Nat.le_refl _))
      have hbx7 := hide (hbx6.out.below hBd hbx6.out.lt)
      have hB7 := hide (((hXh.out.trans (hBV.out.mono hXh.out.size)).trans (hBW.mono (by omega))).trans (hBd.mono (by have := hXh.out.size; have := hBV.out.size; have := hBW.size; omega)))
      have hBW7 := hide (hBW.trans (hBd.mono (by have := hBV.out.size; have := hBW.size; omega)))
      replace d5 := (hBd.cell (p := ⟨g, at_ * 6 + 5, none⟩) hgW).trans d5
      replace df := (hBd.frozen (p := ⟨g, at_ * 6 + 5, none⟩) hgW).trans df
      clear y0 y1 hP6 hbx6 hBd hW7 hou hgb6
      go_upto_region 7 with (fail)
      obtain ⟨W8, hW8⟩ : ∃ W8, W7.setCell ⟨g, at_ * 6 + 5, none⟩ (.slice Au m ku) = W8 := ⟨_, rfl⟩
      rw [hW8]
      have hz8 : W8.heap.size = W7.heap.size := by rw [← hW8]; simp
      have hl8 : RdS W8 W8.heap.size (.slice (some ⟨g, 0, none⟩) (at_ + 1) c5) (lessP p at_ m s) := by
        have := less_rd hP7.out hu.out hm2
        rw [hps.out, hW8] at this
        rw [hz8]
        exact this
      have hB78 : Below (w.heap.size + 1) W7 W8 := by rw [← hW8]; exact (Below.refl _ _).setCell (p := ⟨g, at_ * 6 + 5, none⟩) (by show w.heap.size + 1 ≤ g; omega) _
      have hbx8 : Blk W8 B8 24 #[.slice (some ⟨g, 0, none⟩) (at_ + 1) c5, .int .i64 win] := by rw [← hW8]; exact hbx7.out.far (p := ⟨g, at_ * 6 + 5, none⟩) (Ne.symm hgb) _
      have hzz8 : w.heap.size < W8.heap.size := by have := hXh.out.size; have := hBV.out.size; have := hBW7.out.size; omega
      have hBd8 := hide (hB7.out.trans (hB78.mono (by omega)))
      have hx0 := ((hBW7.out.trans hB78).cell (p := ⟨w.heap.size, 0, none⟩) (Nat.lt_succ_self _)).trans e0
      have hx1 := ((hBW7.out.trans hB78).cell (p := ⟨w.heap.size, 1, none⟩) (Nat.lt_succ_self _)).trans e1
      have y0 := hbx8.cell 0
      have y1 := hbx8.cell 1
      have hb8 := hbx8.lt
      simp at y0 y1
      have hcl := less_cl (m := m) (fun t ht => (hc20.out t ht)) hs.out
      have hll := less_len (m := m) (s := s) hat'
      have kl := hide fun w1 (hb : Below W8.heap.size W8 w1) => right_any (lessP p at_ m s) win _ w1 (hl8.below hb hb.size)
      rw [less_right hm.out hs.out m] at kl
      have ks := hide fun w1 (hb : Below W8.heap.size W8 w1) => size_any (lessP p at_ m s) win _ w1 (hl8.below hb hb.size) (by omega) (fun s hs => by have := hcl s hs; omega)
      have hle := less_size hs.out m
      have hcmp : decide (sizeF p < sizeF (lessP p at_ m s)) = false := by simp; omega
      generalize sizeF (lessP p at_ m s) = sl at *
      generalize sizeF p = sp at *
      clear e0 e1 d5 df hP7 hbx7 hBW7 hB78 hW8 hl8 hbx8 hcl hll hle hu hBV hat1 hw3 hm3 hm1 hm2 hku hok hz8 hz hzz
      refine wp_region_grown W8.heap.size (Nat.le_refl _) (by kernel_rfl) (by kernel_rfl) ?_
      repeat (any_goals (first | go_big_quiet_step ((first
        | (go_at_call 16; (with_reducible exact calls_grown' (Nat.le_refl _) (fun w1 hb hz1 => htr.out w1 (hBd8.out.trans (hb.mono (by omega))))))
        | (go_at_call 16; (with_reducible exact calls_grown' (Nat.le_refl _) (fun w1 hb hz1 => kl.out w1 hb)))
        | (go_at_call 17; (with_reducible exact calls_grown' (Nat.le_refl _) (fun w1 hb hz1 => ks.out w1 hb)))
        | (go_at_call 17; (with_reducible exact calls_grown' (Nat.le_refl _) (fun w1 hb hz1 => hts.out w1 (hBd8.out.trans (hb.mono (by omega)))))))) | quiet_step (fail)))
      refine wpQuiet_nil ?_; intro _ hw'; obtain ⟨nq8, hw''⟩ := hw'; subst hw''
      have hBg := grown_below W8.heap.size W8 nq8
      have hzg := grown_size W8.heap.size W8 nq8 (Nat.le_refl _)
      have hX9 := hBd8.out.trans (hBg.mono (by omega))
      have x90 := (hBg.cell (p := ⟨w.heap.size, 0, none⟩) hzz8).trans hx0
      have x91 := (hBg.cell (p := ⟨w.heap.size, 1, none⟩) hzz8).trans hx1
      have hz9 : w.heap.size < (grown W8.heap.size W8 nq8).heap.size := by omega
      clear hBg hzg hx0 hx1 hzz8 hBd8 hB7 y0 y1 hb8 kl ks hcmp hps hpl hgb hgW hgV hbl
      generalize grown W8.heap.size W8 nq8 = W9 at *
      go_upto_region 10 with (fail)
      go_loopw [8] (fun i wr => ∃ r : Int, 0 ≤ r ∧ r ≤ 8 ∧ i = .int .i64 r ∧ Below w.heap.size w wr ∧ wr.cell? ⟨w.heap.size, 0, none⟩ = some (.slice A p.length cap) ∧ wr.cell? ⟨w.heap.size, 1, none⟩ = some (.int .i64 win) ∧ w.heap.size < wr.heap.size) (fun i _ => (8 - intOf i).toNat)
      case atStart => exact ⟨0, by omega, by omega, rfl, hX9, x90, x91, hz9⟩
      case round =>
        clear hX9 x90 x91 hz9
        obtain ⟨r, hr1, hr8, rfl, hB, e0, e1, hz⟩ := hrel
        by_cases h8 : r = 8
        · subst h8
          clear hown hm hc20 htr hsm
          replace hB := hide hB
          go_wp2_with (go_at_call 14; (with_reducible refine (wakes08_true _).mono ?_); rintro e1 w4 ⟨rfl, hB4⟩)
          go_ret
          exact ⟨rfl, hB.out.trans (hB4.mono hB.out.size)⟩
        have hx := List.getElem?_eq_getElem hat'
        have hr7 : r ≤ 7 := by omega
        have hcl0 := hide fun t ht => hc20.out t ht
        clear h8
        replace hs := hs.out
        clear hx hts htr
        go_upto_region 13 with (go_at_call 15; (with_reducible refine (hown.out _ hB).mono ?_); rintro e5 wo ⟨⟨sv5, qs, rfl, hP5, hqs⟩, hB5⟩; obtain ⟨g, c5, hsv, hg1, hg2, hc5⟩ := own_form1 hP5.row (by rw [← hqs] at hpos; simpa using hpos); subst hsv; have hpl : qs.length = p.length := (by rw [← hqs]; simp); rw [hpl] at hP5 hc5 ⊢; replace hpl := hide hpl; replace hqs := hide hqs; replace hP5 := hide hP5)
        obtain ⟨V5, hV5⟩ : ∃ V5, wo.alloc (.cells #[.slice (some ⟨g, 0, none⟩) p.length c5, .int .i64 win] 24) = V5 := ⟨_, rfl⟩
        rw [hV5]
        have hbx : Blk V5 wo.heap.size 24 #[.slice (some ⟨g, 0, none⟩) p.length c5, .int .i64 win] := by rw [← hV5]; exact Blk.new_ rfl _ _
        have hP : OwP V5 wr.heap.size (.slice (some ⟨g, 0, none⟩) p.length c5) qs := by rw [← hV5]; exact hP5.out.alloc_ _
        have hBV : Below wr.heap.size wr V5 := by rw [← hV5]; exact hB5.alloc hB5.size _
        have hgV : g < V5.heap.size := by rw [← hV5]; simp; omega
        have hzz := hB5.size
        clear hV5 hP5 hB5
        replace e0 := (hBV.cell (p := ⟨w.heap.size, 0, none⟩) hz).trans e0
        replace e1 := (hBV.cell (p := ⟨w.heap.size, 1, none⟩) hz).trans e1
        generalize wo.heap.size = B8 at *
        have hbl := hbx.lt
        have hgb : g ≠ B8 := by
          intro e
          subst e
          rcases hP.row.2 with ⟨h1, -⟩ | ⟨g', cap', cur, e1, -, hh, -⟩
          · cases h1
          · have e2 : g = g' := by injection e1 with e1; injection e1 with e1; injection e1
            subst e2
            have := (show V5.heap[g]? = _ from hbx).symm.trans hh
            simp at this
        replace hBV := hide hBV
        replace hB := hide hB
        have b0 := hbx.cell 0
        have b1 := hbx.cell 1
        have bf0 := hbx.frozen 0
        have bf1 := hbx.frozen 1
        simp at b0 b1
        replace hbx := hide hbx
        replace hP := hide hP
        clear hc20 hown
        obtain ⟨u, hu⟩ := map_get hqs.out hs
        obtain ⟨g', c', cur, e, -, -, hat6, hgb6, hsz6, -⟩ := OwR.at hP.out.row hu
        have eg : g = g' := by injection e with e1; injection e1 with e1; injection e1
        subst eg
        clear e
        obtain rfl | rfl | rfl | rfl | rfl | rfl | rfl | rfl : r = 0 ∨ r = 1 ∨ r = 2 ∨ r = 3 ∨ r = 4 ∨ r = 5 ∨ r = 6 ∨ r = 7 := by omega
        · have hv := bad_0 hm.out hs n1
          obtain ⟨d0, d1, d2, d3, d4, d5⟩ := hat6.c6
          have df := (blk_cell hgb6 (at_ * 6 + 1) (by omega)).2
          clear hat6 hgb6 hsz6
          have hw2 : IntKind.i64.wrap (-n) = -n := IntWalk.i64_in _ (by omega)
          go_upto_region 31 with (fail)
          obtain ⟨W6, hW6⟩ : ∃ W6, V5.setCell ⟨g, at_ * 6 + 1, none⟩ (.int .i64 (-n)) = W6 := ⟨_, rfl⟩
          rw [hW6]
          have hP6 : OwP W6 wr.heap.size (.slice (some ⟨g, 0, none⟩) p.length c5) (qs.set at_ ({ s with kind := -n }, u)) := by
            rw [← hW6]
            have := hP.out.write (i := at_) (j := 1) (s' := { s with kind := -n }) (u := .int .i64 (-n)) hu (by omega) (by rfl) (by rfl)
            simpa using this
          have hrd : RdS W6 W6.heap.size (.slice (some ⟨g, 0, none⟩) p.length c5) (p.set at_ { s with kind := -n }) := by
            have := hP6.rd
            rwa [map_set_fst hqs.out] at this
          have y0 : W6.cell? ⟨B8, 0, none⟩ = some (.slice (some ⟨g, 0, none⟩) p.length c5) := by rw [← hW6]; simpa using (hbx.out.far (p := ⟨g, at_ * 6 + 1, none⟩) (Ne.symm hgb) (.int .i64 (-n))).cell 0
          have y1 : W6.cell? ⟨B8, 1, none⟩ = some (.int .i64 win) := by rw [← hW6]; simpa using (hbx.out.far (p := ⟨g, at_ * 6 + 1, none⟩) (Ne.symm hgb) (.int .i64 (-n))).cell 1
          have hBW : Below (w.heap.size + 1) V5 W6 := by rw [← hW6]; exact (Below.refl _ _).setCell (p := ⟨g, at_ * 6 + 1, none⟩) (by show w.heap.size + 1 ≤ g; omega) _
          clear hP6 d0 d1 d2 d3 d4 d5 df hu
          have zV := hBV.out.size
          have zW := hBW.size
          have x0 := (hBW.cell (p := ⟨w.heap.size, 0, none⟩) (Nat.lt_succ_self _)).trans e0
          have x1 := (hBW.cell (p := ⟨w.heap.size, 1, none⟩) (Nat.lt_succ_self _)).trans e1
          have hB6 := hide ((hB.out.trans (hBV.out.mono hB.out.size)).trans (hBW.mono (by omega)))
          have hchk := right_any (p.set at_ { s with kind := -n }) (win) _ W6 hrd
          rw [hv.1] at hchk
          replace hchk := hide hchk
          have hsame := hide fun w1 (hb : Below W6.heap.size W6 w1) => same_any p (p.set at_ { s with kind := -n }) win (win) _ _ w1 (hsm.out w1 (hB6.out.trans (hb.mono hB6.out.size))) (hrd.below hb hb.size)
          rw [hv.2] at hsame
          have hz6 : B8 < W6.heap.size := by omega
          have hw6 : w.heap.size < W6.heap.size := by omega
          clear hrd hBW hW6 e0 e1 b0 b1 bf0 bf1 hv hs
          go_wp2_with (first | (go_at_call 16; (with_reducible refine (stayf (G := W6.heap.size) hchk.out (Nat.le_refl _)).mono ?_); rintro e7 w7 ⟨rfl, hc7, hf7, hz7, hB7⟩) | (go_at_call 18; (with_reducible refine (stayf (G := W6.heap.size) (hsame.out _ hB7.out) hz7).mono ?_); rintro e8 w8 ⟨rfl, hc8, hf8, hz8, hB8⟩))
          have hB78 := hB7.out.trans hB8.out
          exact ⟨⟨1, by omega, by omega, rfl, hB6.out.trans (hB78.mono (by omega)), (hB78.cell (p := ⟨w.heap.size, 0, none⟩) hw6).trans x0, (hB78.cell (p := ⟨w.heap.size, 1, none⟩) hw6).trans x1, by have := hB78.size; omega⟩, by simp [intOf]⟩
        · have hv := bad_1 hm.out hs n1
          obtain ⟨d0, d1, d2, d3, d4, d5⟩ := hat6.c6
          have df := (blk_cell hgb6 (at_ * 6 + 3) (by omega)).2
          clear hat6 hgb6 hsz6
          have hw2 : IntKind.i64.wrap (1099511627776 + n) = 1099511627776 + n := IntWalk.i64_in _ (by omega)
          go_upto_region 31 with (fail)
          obtain ⟨W6, hW6⟩ : ∃ W6, V5.setCell ⟨g, at_ * 6 + 3, none⟩ (.int .i64 (1099511627776 + n)) = W6 := ⟨_, rfl⟩
          rw [hW6]
          have hP6 : OwP W6 wr.heap.size (.slice (some ⟨g, 0, none⟩) p.length c5) (qs.set at_ ({ s with max := 1099511627776 + n }, u)) := by
            rw [← hW6]
            have := hP.out.write (i := at_) (j := 3) (s' := { s with max := 1099511627776 + n }) (u := .int .i64 (1099511627776 + n)) hu (by omega) (by rfl) (by rfl)
            simpa using this
          have hrd : RdS W6 W6.heap.size (.slice (some ⟨g, 0, none⟩) p.length c5) (p.set at_ { s with max := 1099511627776 + n }) := by
            have := hP6.rd
            rwa [map_set_fst hqs.out] at this
          have y0 : W6.cell? ⟨B8, 0, none⟩ = some (.slice (some ⟨g, 0, none⟩) p.length c5) := by rw [← hW6]; simpa using (hbx.out.far (p := ⟨g, at_ * 6 + 3, none⟩) (Ne.symm hgb) (.int .i64 (1099511627776 + n))).cell 0
          have y1 : W6.cell? ⟨B8, 1, none⟩ = some (.int .i64 win) := by rw [← hW6]; simpa using (hbx.out.far (p := ⟨g, at_ * 6 + 3, none⟩) (Ne.symm hgb) (.int .i64 (1099511627776 + n))).cell 1
          have hBW : Below (w.heap.size + 1) V5 W6 := by rw [← hW6]; exact (Below.refl _ _).setCell (p := ⟨g, at_ * 6 + 3, none⟩) (by show w.heap.size + 1 ≤ g; omega) _
          clear hP6 d0 d1 d2 d3 d4 d5 df hu
          have zV := hBV.out.size
          have zW := hBW.size
          have x0 := (hBW.cell (p := ⟨w.heap.size, 0, none⟩) (Nat.lt_succ_self _)).trans e0
          have x1 := (hBW.cell (p := ⟨w.heap.size, 1, none⟩) (Nat.lt_succ_self _)).trans e1
          have hB6 := hide ((hB.out.trans (hBV.out.mono hB.out.size)).trans (hBW.mono (by omega)))
          have hchk := right_any (p.set at_ { s with max := 1099511627776 + n }) (win) _ W6 hrd
          rw [hv.1] at hchk
          replace hchk := hide hchk
          have hsame := hide fun w1 (hb : Below W6.heap.size W6 w1) => same_any p (p.set at_ { s with max := 1099511627776 + n }) win (win) _ _ w1 (hsm.out w1 (hB6.out.trans (hb.mono hB6.out.size))) (hrd.below hb hb.size)
          rw [hv.2] at hsame
          have hz6 : B8 < W6.heap.size := by omega
          have hw6 : w.heap.size < W6.heap.size := by omega
          clear hrd hBW hW6 e0 e1 b0 b1 bf0 bf1 hv hs
          go_wp2_with (first | (go_at_call 16; (with_reducible refine (stayf (G := W6.heap.size) hchk.out (Nat.le_refl _)).mono ?_); rintro e7 w7 ⟨rfl, hc7, hf7, hz7, hB7⟩) | (go_at_call 18; (with_reducible refine (stayf (G := W6.heap.size) (hsame.out _ hB7.out) hz7).mono ?_); rintro e8 w8 ⟨rfl, hc8, hf8, hz8, hB8⟩))
          have hB78 := hB7.out.trans hB8.out
          exact ⟨⟨2, by omega, by omega, rfl, hB6.out.trans (hB78.mono (by omega)), (hB78.cell (p := ⟨w.heap.size, 0, none⟩) hw6).trans x0, (hB78.cell (p := ⟨w.heap.size, 1, none⟩) hw6).trans x1, by have := hB78.size; omega⟩, by simp [intOf]⟩
        · have hv := bad_2 hm.out n1
          clear hat6 hgb6 hsz6 hu
          have hw2 : IntKind.i64.wrap (-n) = -n := IntWalk.i64_in _ (by omega)
          go_upto_region 31 with (fail)
          obtain ⟨W6, hW6⟩ : ∃ W6, V5.setCell ⟨B8, 1, none⟩ (.int .i64 (-n)) = W6 := ⟨_, rfl⟩
          rw [hW6]
          have hrd : RdS W6 W6.heap.size (.slice (some ⟨g, 0, none⟩) p.length c5) (p) := by
            rw [← hW6]
            have := (hP.out.box hbx.out (by decide) (by decide) (j := 1) (.int .i64 (-n))).rd
            rwa [hqs.out] at this
          have y0 : W6.cell? ⟨B8, 0, none⟩ = some (.slice (some ⟨g, 0, none⟩) p.length c5) := by rw [← hW6]; simpa using (hbx.out.set_ 1 (.int .i64 (-n))).cell 0
          have y1 : W6.cell? ⟨B8, 1, none⟩ = some (.int .i64 (-n)) := by rw [← hW6]; simpa using (hbx.out.set_ 1 (.int .i64 (-n))).cell 1
          have hBW : Below (w.heap.size + 1) V5 W6 := by rw [← hW6]; exact (Below.refl _ _).setCell (p := ⟨B8, 1, none⟩) (by show w.heap.size + 1 ≤ B8; omega) _
          have zV := hBV.out.size
          have zW := hBW.size
          have x0 := (hBW.cell (p := ⟨w.heap.size, 0, none⟩) (Nat.lt_succ_self _)).trans e0
          have x1 := (hBW.cell (p := ⟨w.heap.size, 1, none⟩) (Nat.lt_succ_self _)).trans e1
          have hB6 := hide ((hB.out.trans (hBV.out.mono hB.out.size)).trans (hBW.mono (by omega)))
          have hchk := right_any (p) (-n) _ W6 hrd
          rw [hv.1] at hchk
          replace hchk := hide hchk
          have hsame := hide fun w1 (hb : Below W6.heap.size W6 w1) => same_any p (p) win (-n) _ _ w1 (hsm.out w1 (hB6.out.trans (hb.mono hB6.out.size))) (hrd.below hb hb.size)
          rw [hv.2] at hsame
          have hz6 : B8 < W6.heap.size := by omega
          have hw6 : w.heap.size < W6.heap.size := by omega
          clear hrd hBW hW6 e0 e1 b0 b1 bf0 bf1 hv hs
          go_wp2_with (first | (go_at_call 16; (with_reducible refine (stayf (G := W6.heap.size) hchk.out (Nat.le_refl _)).mono ?_); rintro e7 w7 ⟨rfl, hc7, hf7, hz7, hB7⟩) | (go_at_call 18; (with_reducible refine (stayf (G := W6.heap.size) (hsame.out _ hB7.out) hz7).mono ?_); rintro e8 w8 ⟨rfl, hc8, hf8, hz8, hB8⟩))
          have hB78 := hB7.out.trans hB8.out
          exact ⟨⟨3, by omega, by omega, rfl, hB6.out.trans (hB78.mono (by omega)), (hB78.cell (p := ⟨w.heap.size, 0, none⟩) hw6).trans x0, (hB78.cell (p := ⟨w.heap.size, 1, none⟩) hw6).trans x1, by have := hB78.size; omega⟩, by simp [intOf]⟩
        · have hv := bad_c (win := win) hs (cbad_3 n1)
          have hcm := hcl0.out s (List.mem_of_getElem? hs)
          have hou : OwC V5 wr.heap.size u s.cmps := hP.out.cmps (s, u) (List.mem_of_getElem? hu)
          have gne : some g ≠ u.ownBlock := fun e => by
            rcases own_ne hP.out.row hou.1 (by decide) with e1 | e1
            · simp [Value.ownBlock] at e1
            · exact e1 (by rw [← e]; rfl)
          obtain ⟨d0, d1, d2, d3, d4, d5⟩ := hat6.c6
          obtain ⟨Au, ku, hue⟩ := own_form hou.1
          subst hue
          replace gne := hide gne
          replace hou := hide hou
          replace hgb6 := hide hgb6
          have hw2 : IntKind.u8.wrap (min n 99) = min n 99 := IntWalk.u8_in _ (by omega)
          have hw3 : IntKind.u8.wrap (6 + min n 99) = 6 + min n 99 := IntWalk.u8_in _ (by omega)
          clear hat6 d0 d1 d2 d3 d4
          go_upto_region 31 with (at_builtin; refine app_cm (base := wr.heap.size) (cs := s.cmps) (x := ⟨6 + min n 99, ⟨0, 0, 0, 0⟩, ⟨0, 0, 0, 0⟩⟩) (g := V5.heap.size) (.tmp 121) (.tmp 127) rfl rfl rfl rfl (hou.out.alloc_ _) (Blk.new_ rfl _ _) (by simp; try omega) (by omega) (by have := hBV.out.size; simp; omega) ?_; intro v6 w6 ho6 hg6 hat6; have hgb7 : Hid (w6.heap[g]? = some (.cells cur 30 (0, 0))) := hide (Eq.trans (hg6.block g (by simp; omega) gne.out) (Eq.trans (Below.heap_alloc V5 _ g hgV) hgb6.out)); obtain ⟨⟨q5, d9⟩, df⟩ := blk_cell hgb7.out (at_ * 6 + 5) hsz6; obtain ⟨A6, k6, hv6⟩ := own_form ho6.1; have hl6 : (s.cmps ++ [(⟨6 + min n 99, ⟨0, 0, 0, 0⟩, ⟨0, 0, 0, 0⟩⟩ : Cm)]).length = s.cmps.length + 1 := (by rw [List.length_append]; rfl); rw [hl6] at hv6; subst hv6; replace hl6 := hide hl6; replace ho6 := hide ho6; replace hg6 := hide hg6)
          obtain ⟨W6, hW6⟩ : ∃ W6, w6.setCell ⟨g, at_ * 6 + 5, none⟩ (.slice A6 (s.cmps.length + 1) k6) = W6 := ⟨_, rfl⟩
          rw [hW6]
          have hP6 : OwP W6 wr.heap.size (.slice (some ⟨g, 0, none⟩) p.length c5) (qs.set at_ ({ s with cmps := s.cmps ++ [⟨6 + min n 99, ⟨0, 0, 0, 0⟩, ⟨0, 0, 0, 0⟩⟩] }, .slice A6 (s.cmps.length + 1) k6)) := by
            rw [← hW6]
            exact (hP.out.alloc_ _).cmps_set hu ho6.out ⟨rfl, rfl, rfl, rfl, rfl⟩ hg6.out hat6
          have hrd : RdS W6 W6.heap.size (.slice (some ⟨g, 0, none⟩) p.length c5) (p.set at_ { s with cmps := s.cmps ++ [⟨6 + min n 99, ⟨0, 0, 0, 0⟩, ⟨0, 0, 0, 0⟩⟩] }) := by
            have := hP6.rd
            rwa [map_set_fst hqs.out] at this
          have zV9 := hBV.out.size
          have hbx6 := ((hbx.out.alloc (.cells #[.int .u8 (6 + min n 99), .int .u8 0, .int .i64 0, .int .i64 0, .int .i64 0, .int .u8 0, .int .i64 0, .int .i64 0, .int .i64 0] 36)).grown hg6.out (hbx.out.ne_own hou.out.1 (by decide))).far (p := ⟨g, at_ * 6 + 5, none⟩) (Ne.symm hgb) (.slice A6 (s.cmps.length + 1) k6)
          rw [hW6] at hbx6
          have y0 : W6.cell? ⟨B8, 0, none⟩ = some (.slice (some ⟨g, 0, none⟩) p.length c5) := by simpa using hbx6.cell 0
          have y1 : W6.cell? ⟨B8, 1, none⟩ = some (.int .i64 win) := by simpa using hbx6.cell 1
          have hBW : Below (w.heap.size + 1) V5 W6 := by
            rw [← hW6]
            exact (((Below.refl _ _).alloc (by omega) _).grown hg6.out (by simp; omega) (fun j e => by have := (World.ownsRow.lt hou.out.1 j e).1; omega)).setCell (p := ⟨g, at_ * 6 + 5, none⟩) (by show w.heap.size + 1 ≤ g; omega) _
          clear hP6 hl6 d5 d9 df hu hou gne hgb6 hgb7 ho6 hg6 hbx6
          have zV := hBV.out.size
          have zW := hBW.size
          have x0 := (hBW.cell (p := ⟨w.heap.size, 0, none⟩) (Nat.lt_succ_self _)).trans e0
          have x1 := (hBW.cell (p := ⟨w.heap.size, 1, none⟩) (Nat.lt_succ_self _)).trans e1
          have hB6 := hide ((hB.out.trans (hBV.out.mono hB.out.size)).trans (hBW.mono (by omega)))
          have hchk := right_any (p.set at_ { s with cmps := s.cmps ++ [⟨6 + min n 99, ⟨0, 0, 0, 0⟩, ⟨0, 0, 0, 0⟩⟩] }) (win) _ W6 hrd
          rw [hv.1] at hchk
          replace hchk := hide hchk
          have hsame := hide fun w1 (hb : Below W6.heap.size W6 w1) => same_any p (p.set at_ { s with cmps := s.cmps ++ [⟨6 + min n 99, ⟨0, 0, 0, 0⟩, ⟨0, 0, 0, 0⟩⟩] }) win (win) _ _ w1 (hsm.out w1 (hB6.out.trans (hb.mono hB6.out.size))) (hrd.below hb hb.size)
          rw [hv.2] at hsame
          have hz6 : B8 < W6.heap.size := by omega
          have hw6 : w.heap.size < W6.heap.size := by omega
          clear hrd hBW hW6 e0 e1 b0 b1 bf0 bf1 hv hs
          go_wp2_with (first | (go_at_call 16; (with_reducible refine (stayf (G := W6.heap.size) hchk.out (Nat.le_refl _)).mono ?_); rintro e7 w7 ⟨rfl, hc7, hf7, hz7, hB7⟩) | (go_at_call 18; (with_reducible refine (stayf (G := W6.heap.size) (hsame.out _ hB7.out) hz7).mono ?_); rintro e8 w8 ⟨rfl, hc8, hf8, hz8, hB8⟩))
          have hB78 := hB7.out.trans hB8.out
          exact ⟨⟨4, by omega, by omega, rfl, hB6.out.trans (hB78.mono (by omega)), (hB78.cell (p := ⟨w.heap.size, 0, none⟩) hw6).trans x0, (hB78.cell (p := ⟨w.heap.size, 1, none⟩) hw6).trans x1, by have := hB78.size; omega⟩, by simp [intOf]⟩
        · have hv := bad_c (win := win) hs (cbad_4 n1)
          have hcm := hcl0.out s (List.mem_of_getElem? hs)
          have hou : OwC V5 wr.heap.size u s.cmps := hP.out.cmps (s, u) (List.mem_of_getElem? hu)
          have gne : some g ≠ u.ownBlock := fun e => by
            rcases own_ne hP.out.row hou.1 (by decide) with e1 | e1
            · simp [Value.ownBlock] at e1
            · exact e1 (by rw [← e]; rfl)
          obtain ⟨d0, d1, d2, d3, d4, d5⟩ := hat6.c6
          obtain ⟨Au, ku, hue⟩ := own_form hou.1
          subst hue
          replace gne := hide gne
          replace hou := hide hou
          replace hgb6 := hide hgb6
          clear hat6 d0 d1 d2 d3 d4
          go_upto_region 31 with (at_builtin; refine app_cm (base := wr.heap.size) (cs := s.cmps) (x := ⟨3, ⟨0, 0, n, 0⟩, ⟨0, 0, 0, 0⟩⟩) (g := V5.heap.size) (.tmp 137) (.tmp 141) rfl rfl rfl rfl (hou.out.alloc_ _) (Blk.new_ rfl _ _) (by simp; try omega) (by omega) (by have := hBV.out.size; simp; omega) ?_; intro v6 w6 ho6 hg6 hat6; have hgb7 : Hid (w6.heap[g]? = some (.cells cur 30 (0, 0))) := hide (Eq.trans (hg6.block g (by simp; omega) gne.out) (Eq.trans (Below.heap_alloc V5 _ g hgV) hgb6.out)); obtain ⟨⟨q5, d9⟩, df⟩ := blk_cell hgb7.out (at_ * 6 + 5) hsz6; obtain ⟨A6, k6, hv6⟩ := own_form ho6.1; have hl6 : (s.cmps ++ [(⟨3, ⟨0, 0, n, 0⟩, ⟨0, 0, 0, 0⟩⟩ : Cm)]).length = s.cmps.length + 1 := (by rw [List.length_append]; rfl); rw [hl6] at hv6; subst hv6; replace hl6 := hide hl6; replace ho6 := hide ho6; replace hg6 := hide hg6)
          obtain ⟨W6, hW6⟩ : ∃ W6, w6.setCell ⟨g, at_ * 6 + 5, none⟩ (.slice A6 (s.cmps.length + 1) k6) = W6 := ⟨_, rfl⟩
          rw [hW6]
          have hP6 : OwP W6 wr.heap.size (.slice (some ⟨g, 0, none⟩) p.length c5) (qs.set at_ ({ s with cmps := s.cmps ++ [⟨3, ⟨0, 0, n, 0⟩, ⟨0, 0, 0, 0⟩⟩] }, .slice A6 (s.cmps.length + 1) k6)) := by
            rw [← hW6]
            exact (hP.out.alloc_ _).cmps_set hu ho6.out ⟨rfl, rfl, rfl, rfl, rfl⟩ hg6.out hat6
          have hrd : RdS W6 W6.heap.size (.slice (some ⟨g, 0, none⟩) p.length c5) (p.set at_ { s with cmps := s.cmps ++ [⟨3, ⟨0, 0, n, 0⟩, ⟨0, 0, 0, 0⟩⟩] }) := by
            have := hP6.rd
            rwa [map_set_fst hqs.out] at this
          have zV9 := hBV.out.size
          have hbx6 := ((hbx.out.alloc (.cells #[.int .u8 3, .int .u8 0, .int .i64 0, .int .i64 n, .int .i64 0, .int .u8 0, .int .i64 0, .int .i64 0, .int .i64 0] 36)).grown hg6.out (hbx.out.ne_own hou.out.1 (by decide))).far (p := ⟨g, at_ * 6 + 5, none⟩) (Ne.symm hgb) (.slice A6 (s.cmps.length + 1) k6)
          rw [hW6] at hbx6
          have y0 : W6.cell? ⟨B8, 0, none⟩ = some (.slice (some ⟨g, 0, none⟩) p.length c5) := by simpa using hbx6.cell 0
          have y1 : W6.cell? ⟨B8, 1, none⟩ = some (.int .i64 win) := by simpa using hbx6.cell 1
          have hBW : Below (w.heap.size + 1) V5 W6 := by
            rw [← hW6]
            exact (((Below.refl _ _).alloc (by omega) _).grown hg6.out (by simp; omega) (fun j e => by have := (World.ownsRow.lt hou.out.1 j e).1; omega)).setCell (p := ⟨g, at_ * 6 + 5, none⟩) (by show w.heap.size + 1 ≤ g; omega) _
          clear hP6 hl6 d5 d9 df hu hou gne hgb6 hgb7 ho6 hg6 hbx6
          have zV := hBV.out.size
          have zW := hBW.size
          have x0 := (hBW.cell (p := ⟨w.heap.size, 0, none⟩) (Nat.lt_succ_self _)).trans e0
          have x1 := (hBW.cell (p := ⟨w.heap.size, 1, none⟩) (Nat.lt_succ_self _)).trans e1
          have hB6 := hide ((hB.out.trans (hBV.out.mono hB.out.size)).trans (hBW.mono (by omega)))
          have hchk := right_any (p.set at_ { s with cmps := s.cmps ++ [⟨3, ⟨0, 0, n, 0⟩, ⟨0, 0, 0, 0⟩⟩] }) (win) _ W6 hrd
          rw [hv.1] at hchk
          replace hchk := hide hchk
          have hsame := hide fun w1 (hb : Below W6.heap.size W6 w1) => same_any p (p.set at_ { s with cmps := s.cmps ++ [⟨3, ⟨0, 0, n, 0⟩, ⟨0, 0, 0, 0⟩⟩] }) win (win) _ _ w1 (hsm.out w1 (hB6.out.trans (hb.mono hB6.out.size))) (hrd.below hb hb.size)
          rw [hv.2] at hsame
          have hz6 : B8 < W6.heap.size := by omega
          have hw6 : w.heap.size < W6.heap.size := by omega
          clear hrd hBW hW6 e0 e1 b0 b1 bf0 bf1 hv hs
          go_wp2_with (first | (go_at_call 16; (with_reducible refine (stayf (G := W6.heap.size) hchk.out (Nat.le_refl _)).mono ?_); rintro e7 w7 ⟨rfl, hc7, hf7, hz7, hB7⟩) | (go_at_call 18; (with_reducible refine (stayf (G := W6.heap.size) (hsame.out _ hB7.out) hz7).mono ?_); rintro e8 w8 ⟨rfl, hc8, hf8, hz8, hB8⟩))
          have hB78 := hB7.out.trans hB8.out
          exact ⟨⟨5, by omega, by omega, rfl, hB6.out.trans (hB78.mono (by omega)), (hB78.cell (p := ⟨w.heap.size, 0, none⟩) hw6).trans x0, (hB78.cell (p := ⟨w.heap.size, 1, none⟩) hw6).trans x1, by have := hB78.size; omega⟩, by simp [intOf]⟩
        · have hv := bad_c (win := win) hs (cbad_5 n1)
          have hcm := hcl0.out s (List.mem_of_getElem? hs)
          have hou : OwC V5 wr.heap.size u s.cmps := hP.out.cmps (s, u) (List.mem_of_getElem? hu)
          have gne : some g ≠ u.ownBlock := fun e => by
            rcases own_ne hP.out.row hou.1 (by decide) with e1 | e1
            · simp [Value.ownBlock] at e1
            · exact e1 (by rw [← e]; rfl)
          obtain ⟨d0, d1, d2, d3, d4, d5⟩ := hat6.c6
          obtain ⟨Au, ku, hue⟩ := own_form hou.1
          subst hue
          replace gne := hide gne
          replace hou := hide hou
          replace hgb6 := hide hgb6
          clear hat6 d0 d1 d2 d3 d4
          go_upto_region 31 with (at_builtin; refine app_cm (base := wr.heap.size) (cs := s.cmps) (x := ⟨3, ⟨0, 0, 0, 0⟩, ⟨2, 0, 0, n⟩⟩) (g := V5.heap.size) (.tmp 151) (.tmp 155) rfl rfl rfl rfl (hou.out.alloc_ _) (Blk.new_ rfl _ _) (by simp; try omega) (by omega) (by have := hBV.out.size; simp; omega) ?_; intro v6 w6 ho6 hg6 hat6; have hgb7 : Hid (w6.heap[g]? = some (.cells cur 30 (0, 0))) := hide (Eq.trans (hg6.block g (by simp; omega) gne.out) (Eq.trans (Below.heap_alloc V5 _ g hgV) hgb6.out)); obtain ⟨⟨q5, d9⟩, df⟩ := blk_cell hgb7.out (at_ * 6 + 5) hsz6; obtain ⟨A6, k6, hv6⟩ := own_form ho6.1; have hl6 : (s.cmps ++ [(⟨3, ⟨0, 0, 0, 0⟩, ⟨2, 0, 0, n⟩⟩ : Cm)]).length = s.cmps.length + 1 := (by rw [List.length_append]; rfl); rw [hl6] at hv6; subst hv6; replace hl6 := hide hl6; replace ho6 := hide ho6; replace hg6 := hide hg6)
          obtain ⟨W6, hW6⟩ : ∃ W6, w6.setCell ⟨g, at_ * 6 + 5, none⟩ (.slice A6 (s.cmps.length + 1) k6) = W6 := ⟨_, rfl⟩
          rw [hW6]
          have hP6 : OwP W6 wr.heap.size (.slice (some ⟨g, 0, none⟩) p.length c5) (qs.set at_ ({ s with cmps := s.cmps ++ [⟨3, ⟨0, 0, 0, 0⟩, ⟨2, 0, 0, n⟩⟩] }, .slice A6 (s.cmps.length + 1) k6)) := by
            rw [← hW6]
            exact (hP.out.alloc_ _).cmps_set hu ho6.out ⟨rfl, rfl, rfl, rfl, rfl⟩ hg6.out hat6
          have hrd : RdS W6 W6.heap.size (.slice (some ⟨g, 0, none⟩) p.length c5) (p.set at_ { s with cmps := s.cmps ++ [⟨3, ⟨0, 0, 0, 0⟩, ⟨2, 0, 0, n⟩⟩] }) := by
            have := hP6.rd
            rwa [map_set_fst hqs.out] at this
          have zV9 := hBV.out.size
          have hbx6 := ((hbx.out.alloc (.cells #[.int .u8 3, .int .u8 0, .int .i64 0, .int .i64 0, .int .i64 0, .int .u8 2, .int .i64 0, .int .i64 0, .int .i64 n] 36)).grown hg6.out (hbx.out.ne_own hou.out.1 (by decide))).far (p := ⟨g, at_ * 6 + 5, none⟩) (Ne.symm hgb) (.slice A6 (s.cmps.length + 1) k6)
          rw [hW6] at hbx6
          have y0 : W6.cell? ⟨B8, 0, none⟩ = some (.slice (some ⟨g, 0, none⟩) p.length c5) := by simpa using hbx6.cell 0
          have y1 : W6.cell? ⟨B8, 1, none⟩ = some (.int .i64 win) := by simpa using hbx6.cell 1
          have hBW : Below (w.heap.size + 1) V5 W6 := by
            rw [← hW6]
            exact (((Below.refl _ _).alloc (by omega) _).grown hg6.out (by simp; omega) (fun j e => by have := (World.ownsRow.lt hou.out.1 j e).1; omega)).setCell (p := ⟨g, at_ * 6 + 5, none⟩) (by show w.heap.size + 1 ≤ g; omega) _
          clear hP6 hl6 d5 d9 df hu hou gne hgb6 hgb7 ho6 hg6 hbx6
          have zV := hBV.out.size
          have zW := hBW.size
          have x0 := (hBW.cell (p := ⟨w.heap.size, 0, none⟩) (Nat.lt_succ_self _)).trans e0
          have x1 := (hBW.cell (p := ⟨w.heap.size, 1, none⟩) (Nat.lt_succ_self _)).trans e1
          have hB6 := hide ((hB.out.trans (hBV.out.mono hB.out.size)).trans (hBW.mono (by omega)))
          have hchk := right_any (p.set at_ { s with cmps := s.cmps ++ [⟨3, ⟨0, 0, 0, 0⟩, ⟨2, 0, 0, n⟩⟩] }) (win) _ W6 hrd
          rw [hv.1] at hchk
          replace hchk := hide hchk
          have hsame := hide fun w1 (hb : Below W6.heap.size W6 w1) => same_any p (p.set at_ { s with cmps := s.cmps ++ [⟨3, ⟨0, 0, 0, 0⟩, ⟨2, 0, 0, n⟩⟩] }) win (win) _ _ w1 (hsm.out w1 (hB6.out.trans (hb.mono hB6.out.size))) (hrd.below hb hb.size)
          rw [hv.2] at hsame
          have hz6 : B8 < W6.heap.size := by omega
          have hw6 : w.heap.size < W6.heap.size := by omega
          clear hrd hBW hW6 e0 e1 b0 b1 bf0 bf1 hv hs
          go_wp2_with (first | (go_at_call 16; (with_reducible refine (stayf (G := W6.heap.size) hchk.out (Nat.le_refl _)).mono ?_); rintro e7 w7 ⟨rfl, hc7, hf7, hz7, hB7⟩) | (go_at_call 18; (with_reducible refine (stayf (G := W6.heap.size) (hsame.out _ hB7.out) hz7).mono ?_); rintro e8 w8 ⟨rfl, hc8, hf8, hz8, hB8⟩))
          have hB78 := hB7.out.trans hB8.out
          exact ⟨⟨6, by omega, by omega, rfl, hB6.out.trans (hB78.mono (by omega)), (hB78.cell (p := ⟨w.heap.size, 0, none⟩) hw6).trans x0, (hB78.cell (p := ⟨w.heap.size, 1, none⟩) hw6).trans x1, by have := hB78.size; omega⟩, by simp [intOf]⟩
        · have hv := bad_c (win := win) hs (cbad_6 n1)
          have hcm := hcl0.out s (List.mem_of_getElem? hs)
          have hou : OwC V5 wr.heap.size u s.cmps := hP.out.cmps (s, u) (List.mem_of_getElem? hu)
          have gne : some g ≠ u.ownBlock := fun e => by
            rcases own_ne hP.out.row hou.1 (by decide) with e1 | e1
            · simp [Value.ownBlock] at e1
            · exact e1 (by rw [← e]; rfl)
          obtain ⟨d0, d1, d2, d3, d4, d5⟩ := hat6.c6
          obtain ⟨Au, ku, hue⟩ := own_form hou.1
          subst hue
          replace gne := hide gne
          replace hou := hide hou
          replace hgb6 := hide hgb6
          have hw2 : IntKind.i64.wrap (-1099511627776 - n) = -1099511627776 - n := IntWalk.i64_in _ (by omega)
          clear hat6 d0 d1 d2 d3 d4
          go_upto_region 31 with (at_builtin; refine app_cm (base := wr.heap.size) (cs := s.cmps) (x := ⟨3, ⟨0, -1099511627776 - n, 0, 0⟩, ⟨0, 0, 0, 0⟩⟩) (g := V5.heap.size) (.tmp 165) (.tmp 170) rfl rfl rfl rfl (hou.out.alloc_ _) (Blk.new_ rfl _ _) (by simp; try omega) (by omega) (by have := hBV.out.size; simp; omega) ?_; intro v6 w6 ho6 hg6 hat6; have hgb7 : Hid (w6.heap[g]? = some (.cells cur 30 (0, 0))) := hide (Eq.trans (hg6.block g (by simp; omega) gne.out) (Eq.trans (Below.heap_alloc V5 _ g hgV) hgb6.out)); obtain ⟨⟨q5, d9⟩, df⟩ := blk_cell hgb7.out (at_ * 6 + 5) hsz6; obtain ⟨A6, k6, hv6⟩ := own_form ho6.1; have hl6 : (s.cmps ++ [(⟨3, ⟨0, -1099511627776 - n, 0, 0⟩, ⟨0, 0, 0, 0⟩⟩ : Cm)]).length = s.cmps.length + 1 := (by rw [List.length_append]; rfl); rw [hl6] at hv6; subst hv6; replace hl6 := hide hl6; replace ho6 := hide ho6; replace hg6 := hide hg6)
          obtain ⟨W6, hW6⟩ : ∃ W6, w6.setCell ⟨g, at_ * 6 + 5, none⟩ (.slice A6 (s.cmps.length + 1) k6) = W6 := ⟨_, rfl⟩
          rw [hW6]
          have hP6 : OwP W6 wr.heap.size (.slice (some ⟨g, 0, none⟩) p.length c5) (qs.set at_ ({ s with cmps := s.cmps ++ [⟨3, ⟨0, -1099511627776 - n, 0, 0⟩, ⟨0, 0, 0, 0⟩⟩] }, .slice A6 (s.cmps.length + 1) k6)) := by
            rw [← hW6]
            exact (hP.out.alloc_ _).cmps_set hu ho6.out ⟨rfl, rfl, rfl, rfl, rfl⟩ hg6.out hat6
          have hrd : RdS W6 W6.heap.size (.slice (some ⟨g, 0, none⟩) p.length c5) (p.set at_ { s with cmps := s.cmps ++ [⟨3, ⟨0, -1099511627776 - n, 0, 0⟩, ⟨0, 0, 0, 0⟩⟩] }) := by
            have := hP6.rd
            rwa [map_set_fst hqs.out] at this
          have zV9 := hBV.out.size
          have hbx6 := ((hbx.out.alloc (.cells #[.int .u8 3, .int .u8 0, .int .i64 (-1099511627776 - n), .int .i64 0, .int .i64 0, .int .u8 0, .int .i64 0, .int .i64 0, .int .i64 0] 36)).grown hg6.out (hbx.out.ne_own hou.out.1 (by decide))).far (p := ⟨g, at_ * 6 + 5, none⟩) (Ne.symm hgb) (.slice A6 (s.cmps.length + 1) k6)
          rw [hW6] at hbx6
          have y0 : W6.cell? ⟨B8, 0, none⟩ = some (.slice (some ⟨g, 0, none⟩) p.length c5) := by simpa using hbx6.cell 0
          have y1 : W6.cell? ⟨B8, 1, none⟩ = some (.int .i64 win) := by simpa using hbx6.cell 1
          have hBW : Below (w.heap.size + 1) V5 W6 := by
            rw [← hW6]
            exact (((Below.refl _ _).alloc (by omega) _).grown hg6.out (by simp; omega) (fun j e => by have := (World.ownsRow.lt hou.out.1 j e).1; omega)).setCell (p := ⟨g, at_ * 6 + 5, none⟩) (by show w.heap.size + 1 ≤ g; omega) _
          clear hP6 hl6 d5 d9 df hu hou gne hgb6 hgb7 ho6 hg6 hbx6
          have zV := hBV.out.size
          have zW := hBW.size
          have x0 := (hBW.cell (p := ⟨w.heap.size, 0, none⟩) (Nat.lt_succ_self _)).trans e0
          have x1 := (hBW.cell (p := ⟨w.heap.size, 1, none⟩) (Nat.lt_succ_self _)).trans e1
          have hB6 := hide ((hB.out.trans (hBV.out.mono hB.out.size)).trans (hBW.mono (by omega)))
          have hchk := right_any (p.set at_ { s with cmps := s.cmps ++ [⟨3, ⟨0, -1099511627776 - n, 0, 0⟩, ⟨0, 0, 0, 0⟩⟩] }) (win) _ W6 hrd
          rw [hv.1] at hchk
          replace hchk := hide hchk
          have hsame := hide fun w1 (hb : Below W6.heap.size W6 w1) => same_any p (p.set at_ { s with cmps := s.cmps ++ [⟨3, ⟨0, -1099511627776 - n, 0, 0⟩, ⟨0, 0, 0, 0⟩⟩] }) win (win) _ _ w1 (hsm.out w1 (hB6.out.trans (hb.mono hB6.out.size))) (hrd.below hb hb.size)
          rw [hv.2] at hsame
          have hz6 : B8 < W6.heap.size := by omega
          have hw6 : w.heap.size < W6.heap.size := by omega
          clear hrd hBW hW6 e0 e1 b0 b1 bf0 bf1 hv hs
          go_wp2_with (first | (go_at_call 16; (with_reducible refine (stayf (G := W6.heap.size) hchk.out (Nat.le_refl _)).mono ?_); rintro e7 w7 ⟨rfl, hc7, hf7, hz7, hB7⟩) | (go_at_call 18; (with_reducible refine (stayf (G := W6.heap.size) (hsame.out _ hB7.out) hz7).mono ?_); rintro e8 w8 ⟨rfl, hc8, hf8, hz8, hB8⟩))
          have hB78 := hB7.out.trans hB8.out
          exact ⟨⟨7, by omega, by omega, rfl, hB6.out.trans (hB78.mono (by omega)), (hB78.cell (p := ⟨w.heap.size, 0, none⟩) hw6).trans x0, (hB78.cell (p := ⟨w.heap.size, 1, none⟩) hw6).trans x1, by have := hB78.size; omega⟩, by simp [intOf]⟩
        · have hv := bad_c (win := win) hs (cbad_7 n1)
          have hcm := hcl0.out s (List.mem_of_getElem? hs)
          have hou : OwC V5 wr.heap.size u s.cmps := hP.out.cmps (s, u) (List.mem_of_getElem? hu)
          have gne : some g ≠ u.ownBlock := fun e => by
            rcases own_ne hP.out.row hou.1 (by decide) with e1 | e1
            · simp [Value.ownBlock] at e1
            · exact e1 (by rw [← e]; rfl)
          obtain ⟨d0, d1, d2, d3, d4, d5⟩ := hat6.c6
          obtain ⟨Au, ku, hue⟩ := own_form hou.1
          subst hue
          replace gne := hide gne
          replace hou := hide hou
          replace hgb6 := hide hgb6
          have hw2 : IntKind.i64.wrap (25 + n) = 25 + n := IntWalk.i64_in _ (by omega)
          clear hat6 d0 d1 d2 d3 d4
          go_upto_region 31 with (at_builtin; refine app_cm (base := wr.heap.size) (cs := s.cmps) (x := ⟨3, ⟨5, 0, 0, 25 + n⟩, ⟨0, 0, 0, 0⟩⟩) (g := V5.heap.size) (.tmp 180) (.tmp 185) rfl rfl rfl rfl (hou.out.alloc_ _) (Blk.new_ rfl _ _) (by simp; try omega) (by omega) (by have := hBV.out.size; simp; omega) ?_; intro v6 w6 ho6 hg6 hat6; have hgb7 : Hid (w6.heap[g]? = some (.cells cur 30 (0, 0))) := hide (Eq.trans (hg6.block g (by simp; omega) gne.out) (Eq.trans (Below.heap_alloc V5 _ g hgV) hgb6.out)); obtain ⟨⟨q5, d9⟩, df⟩ := blk_cell hgb7.out (at_ * 6 + 5) hsz6; obtain ⟨A6, k6, hv6⟩ := own_form ho6.1; have hl6 : (s.cmps ++ [(⟨3, ⟨5, 0, 0, 25 + n⟩, ⟨0, 0, 0, 0⟩⟩ : Cm)]).length = s.cmps.length + 1 := (by rw [List.length_append]; rfl); rw [hl6] at hv6; subst hv6; replace hl6 := hide hl6; replace ho6 := hide ho6; replace hg6 := hide hg6)
          obtain ⟨W6, hW6⟩ : ∃ W6, w6.setCell ⟨g, at_ * 6 + 5, none⟩ (.slice A6 (s.cmps.length + 1) k6) = W6 := ⟨_, rfl⟩
          rw [hW6]
          have hP6 : OwP W6 wr.heap.size (.slice (some ⟨g, 0, none⟩) p.length c5) (qs.set at_ ({ s with cmps := s.cmps ++ [⟨3, ⟨5, 0, 0, 25 + n⟩, ⟨0, 0, 0, 0⟩⟩] }, .slice A6 (s.cmps.length + 1) k6)) := by
            rw [← hW6]
            exact (hP.out.alloc_ _).cmps_set hu ho6.out ⟨rfl, rfl, rfl, rfl, rfl⟩ hg6.out hat6
          have hrd : RdS W6 W6.heap.size (.slice (some ⟨g, 0, none⟩) p.length c5) (p.set at_ { s with cmps := s.cmps ++ [⟨3, ⟨5, 0, 0, 25 + n⟩, ⟨0, 0, 0, 0⟩⟩] }) := by
            have := hP6.rd
            rwa [map_set_fst hqs.out] at this
          have zV9 := hBV.out.size
          have hbx6 := ((hbx.out.alloc (.cells #[.int .u8 3, .int .u8 5, .int .i64 0, .int .i64 0, .int .i64 (25 + n), .int .u8 0, .int .i64 0, .int .i64 0, .int .i64 0] 36)).grown hg6.out (hbx.out.ne_own hou.out.1 (by decide))).far (p := ⟨g, at_ * 6 + 5, none⟩) (Ne.symm hgb) (.slice A6 (s.cmps.length + 1) k6)
          rw [hW6] at hbx6
          have y0 : W6.cell? ⟨B8, 0, none⟩ = some (.slice (some ⟨g, 0, none⟩) p.length c5) := by simpa using hbx6.cell 0
          have y1 : W6.cell? ⟨B8, 1, none⟩ = some (.int .i64 win) := by simpa using hbx6.cell 1
          have hBW : Below (w.heap.size + 1) V5 W6 := by
            rw [← hW6]
            exact (((Below.refl _ _).alloc (by omega) _).grown hg6.out (by simp; omega) (fun j e => by have := (World.ownsRow.lt hou.out.1 j e).1; omega)).setCell (p := ⟨g, at_ * 6 + 5, none⟩) (by show w.heap.size + 1 ≤ g; omega) _
          clear hP6 hl6 d5 d9 df hu hou gne hgb6 hgb7 ho6 hg6 hbx6
          have zV := hBV.out.size
          have zW := hBW.size
          have x0 := (hBW.cell (p := ⟨w.heap.size, 0, none⟩) (Nat.lt_succ_self _)).trans e0
          have x1 := (hBW.cell (p := ⟨w.heap.size, 1, none⟩) (Nat.lt_succ_self _)).trans e1
          have hB6 := hide ((hB.out.trans (hBV.out.mono hB.out.size)).trans (hBW.mono (by omega)))
          have hchk := right_any (p.set at_ { s with cmps := s.cmps ++ [⟨3, ⟨5, 0, 0, 25 + n⟩, ⟨0, 0, 0, 0⟩⟩] }) (win) _ W6 hrd
          rw [hv.1] at hchk
          replace hchk := hide hchk
          have hsame := hide fun w1 (hb : Below W6.heap.size W6 w1) => same_any p (p.set at_ { s with cmps := s.cmps ++ [⟨3, ⟨5, 0, 0, 25 + n⟩, ⟨0, 0, 0, 0⟩⟩] }) win (win) _ _ w1 (hsm.out w1 (hB6.out.trans (hb.mono hB6.out.size))) (hrd.below hb hb.size)
          rw [hv.2] at hsame
          have hz6 : B8 < W6.heap.size := by omega
          have hw6 : w.heap.size < W6.heap.size := by omega
          clear hrd hBW hW6 e0 e1 b0 b1 bf0 bf1 hv hs
          go_wp2_with (first | (go_at_call 16; (with_reducible refine (stayf (G := W6.heap.size) hchk.out (Nat.le_refl _)).mono ?_); rintro e7 w7 ⟨rfl, hc7, hf7, hz7, hB7⟩) | (go_at_call 18; (with_reducible refine (stayf (G := W6.heap.size) (hsame.out _ hB7.out) hz7).mono ?_); rintro e8 w8 ⟨rfl, hc8, hf8, hz8, hB8⟩))
          have hB78 := hB7.out.trans hB8.out
          exact ⟨⟨8, by omega, by omega, rfl, hB6.out.trans (hB78.mono (by omega)), (hB78.cell (p := ⟨w.heap.size, 0, none⟩) hw6).trans x0, (hB78.cell (p := ⟨w.heap.size, 1, none⟩) hw6).trans x1, by have := hB78.size; omega⟩, by simp [intOf]⟩
end Go.Proofs.Ytidddeobachjgaa
