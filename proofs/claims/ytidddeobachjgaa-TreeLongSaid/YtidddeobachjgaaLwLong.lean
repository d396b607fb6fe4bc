/- The law TreeLong: its walk. -/
import Derived.Test.YtidddeobachjgaaWkT
import Derived.Test.YtidddeobachjgaaLibQ
import Derived.Test.YtidddeobachjgaaLibZ
import Derived.Test.YtidddeobachjgaaPlW
import Derived.Test.YtidddeobachjgaaTrC
import Derived.Test.YtidddeobachjgaaTrF
import Derived.Deep.CutRange
namespace Go.Proofs.Ytidddeobachjgaa
open Go.RowKit
attribute [local go_sem] relVal relEff dT valF rowF grown_cell grown_frozen

/-- The region that appends: what is known of its operations. -/
def longL (B n : Nat) (win : Int) (xs xc : List Value) : List (Nat × Fact) :=
  [(0, fullG 30 (B + 1) 0 []), (3, rowG 30 6 (B + 1) n xs), (5, fullG 30 (B + 1) 1 xc), (6, rowG 30 6 (B + 1) (n + 1) (xs ++ xc)), (8, stF B 24 30 6 (B + 1) (n + 1) (xs ++ xc) (.int .i64 win))]
theorem longL_ok (B n : Nat) (win : Int) (xs xc : List Value) : ∀ p ∈ longL B n win xs xc, FactOk p.2 := by
  intro p hp
  simp only [longL, List.mem_cons, List.not_mem_nil, or_false] at hp
  rcases hp with rfl | rfl | rfl | rfl | rfl <;> first | exact fullG_ok _ _ _ _ | exact rowG_ok _ _ _ _ _ | exact stF_ok _ _ _ _ _ _ _ _
def longC (B : Nat) (win : Int) (W x : World) : Prop := Below B W x ∧ B < x.heap.size ∧ ∃ u, Blk x B 24 #[u, .int .i64 win]
theorem longC_below (B : Nat) (win : Int) (W : World) : ∀ w w', longC B win W w → Below w.heap.size w w' → longC B win W w' := by
  rintro w w' ⟨h1, h2, u, h3⟩ hb
  exact ⟨h1.trans (hb.mono (Nat.le_of_lt h2)), Nat.lt_of_lt_of_le h2 hb.size, u, h3.below hb h2⟩

theorem longL_ovr {B n : Nat} {win : Int} {xs xc : List Value} {w w' : World} (h : Ovr w w' 30 6 n xs xc) (hx : xs.length = n * 6) (hl : xc.length = 6) : KeepT (longL B n win xs xc) w w' := by
  intro q hq v hv
  simp only [longL, List.mem_cons, List.not_mem_nil, or_false] at hq
  rcases hq with rfl | rfl | rfl | rfl | rfl
  · exact h.full0 (by decide) hv
  · exact h.row hx hl hv ⟨xc, rfl⟩
  · exact h.full1 hx hl (by decide) hv
  · exact h.row hx hl hv ⟨[], by simp⟩
  · obtain ⟨r, h1, h2⟩ := hv
    exact ⟨r, h.blk h1 (by decide), h.row hx hl h2 ⟨[], by simp⟩⟩
theorem longC_ovr {B n : Nat} {win : Int} {xs xc : List Value} {W w w' : World} (hC : longC B win W w) (hb : Below (B + 1) w w') (h : Ovr w w' 30 6 n xs xc) : longC B win W w' := by
  obtain ⟨h1, h2, u, h3⟩ := hC
  exact ⟨h1.trans (hb.mono (by omega)), Nat.lt_of_lt_of_le h2 hb.size, u, h.blk h3 (by decide)⟩
theorem longL_set {B n : Nat} {win : Int} {xs xc : List Value} {W w : World} {u : Value} (hC : longC B win W w) (hu : w.ownsRow (B + 1) 30 6 u (n + 1) (xs ++ xc)) :
    longC B win W (w.setCell ⟨B, 0, none⟩ u) ∧ KeepT (longL B n win xs xc) w (w.setCell ⟨B, 0, none⟩ u) ∧ (stF B 24 30 6 (B + 1) (n + 1) (xs ++ xc) (.int .i64 win)).2 undef (w.setCell ⟨B, 0, none⟩ u) := by
  obtain ⟨h1, h2, r, h3⟩ := hC
  have hb : Blk (w.setCell ⟨B, 0, none⟩ u) B 24 #[u, .int .i64 win] := by simpa using h3.set_ 0 u
  have row : ∀ {m : Nat} {v : Value} {ys : List Value}, w.ownsRow (B + 1) 30 6 v m ys → (w.setCell ⟨B, 0, none⟩ u).ownsRow (B + 1) 30 6 v m ys := by
    intro m v ys hv
    exact own_set hv (p := ⟨B, 0, none⟩) (fun e => by have := (World.ownsRow.lt hv B e.symm).1; omega) u
  have full : ∀ {m : Nat} {v : Value} {ys : List Value}, (fullG 30 (B + 1) m ys).2 v w → (fullG 30 (B + 1) m ys).2 v (w.setCell ⟨B, 0, none⟩ u) := by
    rintro m v ys ⟨g, e1, e2, e3⟩
    exact ⟨g, e1, e2, (Below.heap_setCell w ⟨B, 0, none⟩ u g (by show g ≠ B; omega)).trans e3⟩
  have st : (stF B 24 30 6 (B + 1) (n + 1) (xs ++ xc) (.int .i64 win)).2 undef (w.setCell ⟨B, 0, none⟩ u) := ⟨u, hb, row hu⟩
  refine ⟨⟨h1.setCell (p := ⟨B, 0, none⟩) (Nat.le_refl _) u, by simpa [World.setCell] using h2, u, hb⟩, ?_, st⟩
  intro q hq v hv
  simp only [longL, List.mem_cons, List.not_mem_nil, or_false] at hq
  rcases hq with rfl | rfl | rfl | rfl | rfl
  · exact full hv
  · exact row hv
  · exact full hv
  · exact row hv
  · exact st

/-- The region that compares: what is known of its operations. -/
def long2L (G n : Nat) (xs xc : List Value) : List (Nat × Fact) :=
  [(20, fullG 3 G 0 []), (22, rowG 3 1 G n xs), (26, fullG 3 G 1 xc), (27, rowG 3 1 G (n + 1) (xs ++ xc)), (28, valF (.bool true)), (31, valF (.bool true))]
theorem long2L_ok (G n : Nat) (xs xc : List Value) : ∀ p ∈ long2L G n xs xc, FactOk p.2 := by
  intro p hp
  simp only [long2L, List.mem_cons, List.not_mem_nil, or_false] at hp
  rcases hp with rfl | rfl | rfl | rfl | rfl | rfl <;> first | exact fullG_ok _ _ _ _ | exact rowG_ok _ _ _ _ _ | exact valF_ok _
theorem long2L_ovr {G n : Nat} {xs xc : List Value} {w w' : World} (h : Ovr w w' 3 1 n xs xc) (hx : xs.length = n * 1) (hl : xc.length = 1) : KeepT (long2L G n xs xc) w w' := by
  intro q hq v hv
  simp only [long2L, List.mem_cons, List.not_mem_nil, or_false] at hq
  rcases hq with rfl | rfl | rfl | rfl | rfl | rfl
  · exact h.full0 (by decide) hv
  · exact h.row hx hl hv ⟨xc, rfl⟩
  · exact h.full1 hx hl (by decide) hv
  · exact h.row hx hl hv ⟨[], by simp⟩
  · trivial
  · trivial
def long2C (G : Nat) (W x : World) : Prop := Below G W x ∧ G ≤ x.heap.size
theorem long2C_below (G : Nat) (W : World) : ∀ w w', long2C G W w → Below w.heap.size w w' → long2C G W w' := by
  rintro w w' ⟨h1, h2⟩ hb
  exact ⟨h1.trans (hb.mono h2), Nat.le_trans h2 hb.size⟩

set_option maxRecDepth 100000 in
set_option maxHeartbeats 16000000 in
theorem treeLong_walk (p : List Sp) (s : Sp) (win : Int) (v cv : Value) (w : World) (h : RdS w w.heap.size v p) (hc : RdC w w.heap.size cv s.cmps) :
    Calls Try.prog 5 #[ptV v win, spV s cv] w fun e w' => e = .returned (.bool true) ∧ Below w.heap.size w w' := by
  have hgr := hide fun w1 (hb : Below w.heap.size w w1) => great_any p win v w1 (h.below hb hb.size)
  have hsz := RdL.lenle h
  have hsc := RdL.lenle hc
  have hrc := hide hc
  obtain ⟨Ac, kc, hcve⟩ := hc.len
  subst hcve
  clear hc
  obtain ⟨neg, kind, mn, mx, strict, cmps⟩ := s
  simp only at hsc hrc
  cases hg : greatB p with
  | true =>
    rw [hg] at hgr
    obtain ⟨A, cap, rfl⟩ := h.len
    clear h hg hrc
    go_enter Try.func5, Try.ntmps5
    have hX := hide (((Below.refl w.heap.size w).alloc (Nat.le_refl _) (.cells #[.slice A p.length cap, .int .i64 win] 24)).alloc (by simp) (.cells #[.bool neg, .int .i64 kind, .int .i64 mn, .int .i64 mx, .bool strict, .slice Ac cmps.length kc] 30))
    go_wp2_with (first | (go_at_call 12; (with_reducible refine (stayf (G := w.heap.size + 2) (hgr.out _ hX.out) (by simp)).mono ?_); rintro e w1 ⟨rfl, hc1, hf1, hz1, hB1⟩) | (go_at_call 14; (with_reducible refine (wakes08_true _).mono ?_); rintro e w2 ⟨rfl, hB2⟩))
    go_ret
    exact ⟨rfl, (hX.out.trans (hB1.out.mono (by omega))).trans (hB2.mono (by omega))⟩
  | false =>
    rw [hg] at hgr
    obtain ⟨h40, hc20⟩ := great_no hg
    clear hg
    by_cases h20 : 20 < cmps.length
    · have h20' : 20 < (cmps.length : Int) := by omega
      obtain ⟨A, cap, rfl⟩ := h.len
      clear h hrc hc20
      go_enter Try.func5, Try.ntmps5
      have hX := hide (((Below.refl w.heap.size w).alloc (Nat.le_refl _) (.cells #[.slice A p.length cap, .int .i64 win] 24)).alloc (by simp) (.cells #[.bool neg, .int .i64 kind, .int .i64 mn, .int .i64 mx, .bool strict, .slice Ac cmps.length kc] 30))
      go_wp2_with (first | (go_at_call 12; (with_reducible refine (stayf (G := w.heap.size + 2) (hgr.out _ hX.out) (by simp)).mono ?_); rintro e w1 ⟨rfl, hc1, hf1, hz1, hB1⟩) | (go_at_call 14; (with_reducible refine (wakes08_true _).mono ?_); rintro e w2 ⟨rfl, hB2⟩))
      go_ret
      exact ⟨rfl, (hX.out.trans (hB1.out.mono (by omega))).trans (hB2.mono (by omega))⟩
    · have h20' : (cmps.length : Int) ≤ 20 := by omega
      have hlg := hide fun w1 (hb : Below w.heap.size w w1) => long_any p win v w1 (h.below hb hb.size) (by omega)
      have hpo := hide fun w1 (hb : Below w.heap.size w w1) => positive_any p win v w1 (h.below hb hb.size) (by omega)
      have hsi := hide fun w1 (hb : Below w.heap.size w w1) => size_any p win v w1 (h.below hb hb.size) (by omega) (fun s hs => by have := hc20 s hs; omega)
      have hrs := hide h
      obtain ⟨A, cap, rfl⟩ := h.len
      replace hc20 := hide hc20
      clear h
      go_enter Try.func5, Try.ntmps5
      have hX := hide (((Below.refl w.heap.size w).alloc (Nat.le_refl _) (.cells #[.slice A p.length cap, .int .i64 win] 24)).alloc (by simp) (.cells #[.bool neg, .int .i64 kind, .int .i64 mn, .int .i64 mx, .bool strict, .slice Ac cmps.length kc] 30))
      go_upto_region 4 with (first | (go_at_call 12; (with_reducible refine (stayf (G := w.heap.size + 2) (hgr.out _ hX.out) (by simp)).mono ?_); rintro e w1 ⟨rfl, hc1, hf1, hz1, hB1⟩; have hX1 := hide (hX.out.trans (hB1.out.mono (by omega)))) | (go_at_call 21; (with_reducible refine (stayf (G := w.heap.size + 2) (hlg.out _ hX1.out) hz1).mono ?_); rintro e w2 ⟨rfl, hc2, hf2', hz2, hB2⟩; have hX2 := hide (hX1.out.trans (hB2.out.mono (by omega)))))
      have e0 : w2.cell? ⟨w.heap.size, 0, none⟩ = some (.slice A p.length cap) := by rw [hc2 _ _ (by omega), hc1 _ _ (by omega)]; simp
      have e1 : w2.cell? ⟨w.heap.size, 1, none⟩ = some (.int .i64 win) := by rw [hc2 _ _ (by omega), hc1 _ _ (by omega)]; simp
      have s0 : w2.cell? ⟨w.heap.size + 1, 0, none⟩ = some (.bool neg) := by rw [hc2 _ _ (by omega), hc1 _ _ (by omega)]; simp
      have s1 : w2.cell? ⟨w.heap.size + 1, 1, none⟩ = some (.int .i64 kind) := by rw [hc2 _ _ (by omega), hc1 _ _ (by omega)]; simp
      have s2 : w2.cell? ⟨w.heap.size + 1, 2, none⟩ = some (.int .i64 mn) := by rw [hc2 _ _ (by omega), hc1 _ _ (by omega)]; simp
      have s3 : w2.cell? ⟨w.heap.size + 1, 3, none⟩ = some (.int .i64 mx) := by rw [hc2 _ _ (by omega), hc1 _ _ (by omega)]; simp
      have s4 : w2.cell? ⟨w.heap.size + 1, 4, none⟩ = some (.bool strict) := by rw [hc2 _ _ (by omega), hc1 _ _ (by omega)]; simp
      have s5 : w2.cell? ⟨w.heap.size + 1, 5, none⟩ = some (.slice Ac cmps.length kc) := by rw [hc2 _ _ (by omega), hc1 _ _ (by omega)]; simp
      have hz : w.heap.size + 1 < w2.heap.size := hz2
      clear hc1 hc2 hf1 hf2' hB1 hB2 hX1 hX hz1 hz2 hgr
      go_upto_region 5 with (fail)
      obtain ⟨W, hW⟩ : ∃ W, w2.alloc (.cells #[.slice A p.length cap, .int .i64 win] 24) = W := ⟨_, rfl⟩
      rw [hW]
      have hbq : Blk W w2.heap.size 24 #[.slice A p.length cap, .int .i64 win] := by rw [← hW]; exact Blk.new_ rfl _ _
      have hB2W : Below w2.heap.size w2 W := by rw [← hW]; exact (Below.refl _ _).alloc (Nat.le_refl _) _
      have hWz : W.heap.size = w2.heap.size + 1 := by rw [← hW]; simp
      clear hW
      replace e0 := (hB2W.cell (p := ⟨w.heap.size, 0, none⟩) (by show w.heap.size < _; omega)).trans e0
      replace e1 := (hB2W.cell (p := ⟨w.heap.size, 1, none⟩) (by show w.heap.size < _; omega)).trans e1
      replace s0 := (hB2W.cell (p := ⟨w.heap.size + 1, 0, none⟩) hz).trans s0
      replace s1 := (hB2W.cell (p := ⟨w.heap.size + 1, 1, none⟩) hz).trans s1
      replace s2 := (hB2W.cell (p := ⟨w.heap.size + 1, 2, none⟩) hz).trans s2
      replace s3 := (hB2W.cell (p := ⟨w.heap.size + 1, 3, none⟩) hz).trans s3
      replace s4 := (hB2W.cell (p := ⟨w.heap.size + 1, 4, none⟩) hz).trans s4
      replace s5 := (hB2W.cell (p := ⟨w.heap.size + 1, 5, none⟩) hz).trans s5
      have hXW := hide (hX2.out.trans (hB2W.mono hX2.out.size))
      clear hX2 hB2W
      generalize w2.heap.size = B at *
      obtain ⟨ps, hps, hrd, A', cap', b, off, eP, n2, n3, h4, h5⟩ := (hrs.out.below hXW.out (Nat.le_refl _)).pairs
      have hpl : ps.length = p.length := by rw [← hps]; simp
      rw [hpl] at eP n2 h4
      injection eP with eP1 _ eP3
      subst eP1 eP3
      have hCW : longC B win W W := ⟨Below.refl _ _, by omega, _, hbq⟩
      have hC0 : longC B win W W.drew := ⟨(Below.refl _ _).drew, by show B < W.heap.size; omega, _, hbq⟩
      have gc := hide fun (b o : Nat) (n : World) (hb : b < B) => (someW_is n hCW).1.cell (p := ⟨b, o, none⟩) hb
      have hz0 : w.heap.size < B := by omega
      have f0 := fun n => (gc.out _ 0 n hz0).trans e0
      have f1 := fun n => (gc.out _ 1 n hz0).trans e1
      have t0 := fun n => (gc.out _ 0 n hz).trans s0
      have t1 := fun n => (gc.out _ 1 n hz).trans s1
      have t2 := fun n => (gc.out _ 2 n hz).trans s2
      have t3 := fun n => (gc.out _ 3 n hz).trans s3
      have t4 := fun n => (gc.out _ 4 n hz).trans s4
      have t5 := fun n => (gc.out _ 5 n hz).trans s5
      have hsrc : Hid ((A = none → p.length = 0) ∧ (∀ n : World, ∀ ad, A = some ad → ∀ j u, (ps.flatMap spc)[j]? = some u → (someW (longC B win W) W n).cell? (ad.add j) = some u) ∧ ∀ u ∈ ps.flatMap spc, u.oneCell' = true) := by
        refine hide ⟨fun hA => ?_, fun n ad hA j u hu => ?_, fun u hu => ?_⟩
        · rcases Nat.eq_zero_or_pos p.length with h0 | h0
          · exact h0
          · rw [hA] at h4
            cases (h4 h0).1
        · have h0 : 0 < p.length := by
            have := (List.getElem?_eq_some_iff.1 hu).1
            rw [flat_len sp_len] at this
            omega
          obtain ⟨e, hb⟩ := h4 h0
          rw [hA] at e
          obtain rfl := Option.some.inj e
          exact news_step (fun i x hx => (h5 i x hx).below (someW_is n hCW).1 (by omega)) j u hu
        · obtain ⟨x, hx, hu⟩ := List.mem_flatMap.1 hu
          simp only [spc, List.mem_cons, List.not_mem_nil, or_false] at hu
          rcases hu with rfl | rfl | rfl | rfl | rfl | rfl <;> first | rfl | exact (hrd x hx).one
      clear h4 h5
      replace hrd := hide hrd
      replace hps := hide hps
      replace hCW := hide hCW
      replace hbq := hide hbq
      have hok := hide (longL_ok B p.length win (ps.flatMap spc) (spc (⟨neg, kind, mn, mx, strict, cmps⟩, .slice Ac cmps.length kc)))
      refine wp_region_inv (longC B win W) (longL B p.length win (ps.flatMap spc) (spc (⟨neg, kind, mn, mx, strict, cmps⟩, .slice Ac cmps.length kc))) [(3, [0]), (6, [3, 5]), (8, [6])] hC0 (by kernel_rfl) (by kernel_rfl) (fun p hp => (hok.out p hp).inh) ?_
      refine wpTab_eff (fullG 30 (B + 1) 0 []) rfl (fun K hK => ?_)
      go_simp
      refine ⟨fun n => ?_, fun v hv => ?_⟩
      · have ha := inv_alloc hCW.out (longC_below B win W) hok.out (.cells #[] 30) n
        exact ⟨ha.1, ha.2, fullG_new (by have := (someW_is n hCW.out).2.1; omega)⟩
      obtain ⟨g0, rfl⟩ := hv
      refine hK _ _ ?_
      clear hK K
      repeat (refine wpRel_one rfl (fun K hK => ?_); go_simp; refine hK _ _ ?_; clear hK K)
      refine wpTab_eff (rowG 30 6 (B + 1) p.length (ps.flatMap spc)) rfl (fun K hK => ?_)
      rw [if_pos (by rfl)]
      refine ⟨fun x hx hΓ => ?_, fun v hv => ?_⟩
      · obtain ⟨n, rfl⟩ := hx
        obtain ⟨g, e1, e2, e3⟩ := hΓ (0, _) (List.mem_cons_self ..) (show (0 : Nat) ∈ [0] by decide)
        have hC := someW_is n hCW.out
        obtain ⟨i0, hi, hz0, hz1, hz2⟩ := info_parts step_info
        injection e1 with e4 _ _
        injection e4 with e4
        injection e4 with e4 _ _
        subst e4
        obtain ⟨v', w', hrun, hrow, hb⟩ := run_app_empty (t := 22) (ty := 22) Try.underlying22 hi hz0 hz1 hz2 rfl e3 e2 (by have := hC.2.1; omega) A p.length cap (ps.flatMap spc) hsrc.out.1 (by rw [flat_len sp_len, hpl]) (hsrc.out.2.1 n) hsrc.out.2.2 (by unfold maxLen; omega) (by omega)
        exact relEff_append (s := .tmp 27) (x := .tmp 29) rfl rfl rfl hrun ⟨(inv_below hCW.out (longC_below B win W) hok.out hb).1, (inv_below hCW.out (longC_below B win W) hok.out hb).2, own_form hrow, hrow⟩
      obtain ⟨A3, k3, rfl⟩ := hv
      refine hK _ _ ?_
      clear hK K
      repeat (refine wpRel_one rfl (fun K hK => ?_); go_simp; refine hK _ _ ?_; clear hK K)
      refine wpTab_eff (fullG 30 (B + 1) 1 (spc (⟨neg, kind, mn, mx, strict, cmps⟩, .slice Ac cmps.length kc))) rfl (fun K hK => ?_)
      go_simp
      refine ⟨fun n => ?_, fun v hv => ?_⟩
      · have ha := inv_alloc hCW.out (longC_below B win W) hok.out (.cells (spc (⟨neg, kind, mn, mx, strict, cmps⟩, .slice Ac cmps.length kc)).toArray 30) n
        exact ⟨ha.1, ha.2, fullG_new (by have := (someW_is n hCW.out).2.1; omega)⟩
      obtain ⟨g5, rfl⟩ := hv
      refine hK _ _ ?_
      clear hK K
      repeat (refine wpRel_one rfl (fun K hK => ?_); go_simp; refine hK _ _ ?_; clear hK K)
      refine wpTab_eff (rowG 30 6 (B + 1) (p.length + 1) (ps.flatMap spc ++ spc (⟨neg, kind, mn, mx, strict, cmps⟩, .slice Ac cmps.length kc))) rfl (fun K hK => ?_)
      rw [if_pos (by rfl)]
      refine ⟨fun x hx hΓ => ?_, fun v hv => ?_⟩
      · obtain ⟨n, rfl⟩ := hx
        obtain ⟨g, e1, e2, e3⟩ := hΓ (5, _) (List.mem_cons_self ..) (show (5 : Nat) ∈ [3, 5] by decide)
        have e6 : (someW (longC B win W) W n).ownsRow (B + 1) 30 6 (.slice A3 p.length k3) p.length (ps.flatMap spc) := hΓ (3, _) (List.mem_cons_of_mem _ (List.mem_cons_self ..)) (show (3 : Nat) ∈ [3, 5] by decide)
        have hC := someW_is n hCW.out
        obtain ⟨i0, hi, hz0, hz1, hz2⟩ := info_parts step_info
        injection e1 with e4 _ _
        injection e4 with e4
        injection e4 with e4 _ _
        subst e4
        obtain ⟨v', w', hrun, hrow, hb, hO⟩ := run_app_row (t := 22) (ty := 22) Try.underlying22 hi hz0 hz1 hz2 rfl e6 (by have := hC.2.1; omega) ⟨g5, 0, none⟩ 1 (spc (⟨neg, kind, mn, mx, strict, cmps⟩, .slice Ac cmps.length kc)) rfl (blk_news e3)
          (by intro u hu; simp [spc] at hu; rcases hu with rfl | rfl | rfl | rfl | rfl | rfl <;> rfl) (by unfold maxLen; omega) (by omega)
        exact relEff_append (s := .tmp 30) (x := .tmp 32) rfl rfl rfl hrun ⟨⟨w', (someW_of (longC_ovr hC hb hO)).symm⟩, longL_ovr hO (by rw [flat_len sp_len, hpl]) rfl, own_form hrow, hrow⟩
      obtain ⟨A6, k6, rfl⟩ := hv
      refine hK _ _ ?_
      clear hK K
      repeat (refine wpRel_one rfl (fun K hK => ?_); go_simp; refine hK _ _ ?_; clear hK K)
      refine wpTab_eff (stF B 24 30 6 (B + 1) (p.length + 1) (ps.flatMap spc ++ spc (⟨neg, kind, mn, mx, strict, cmps⟩, .slice Ac cmps.length kc)) (.int .i64 win)) rfl (fun K hK => ?_)
      go_simp
      refine ⟨fun n ho => ?_, fun v hv => ?_⟩
      · have hC := someW_is n hCW.out
        obtain ⟨r, hbr⟩ := hC.2.2
        have hy := hbr.cell 0
        have hfz := hbr.frozen 0
        simp at hy
        have h8 := longL_set hC ho
        simp only [hy, hfz, Result.andThen_ok, Bool.false_eq_true, if_false]
        exact ⟨⟨_, (someW_of h8.1).symm⟩, h8.2.1, rfl, h8.2.2⟩
      obtain rfl := hv
      refine hK _ _ ?_
      clear hK K
      refine wpRel_nil ?_
      rintro w7 ⟨n7, rfl⟩ hΓ
      have hst : (stF B 24 30 6 (B + 1) (p.length + 1) (ps.flatMap spc ++ spc (⟨neg, kind, mn, mx, strict, cmps⟩, .slice Ac cmps.length kc)) (.int .i64 win)).2 undef (someW (longC B win W) W n7) := hΓ _ (List.mem_cons_self ..)
      obtain ⟨r7, hb7, hrow7⟩ := hst
      have hC7 := someW_is n7 hCW.out
      clear hΓ f0 f1 t0 t1 t2 t3 t4 t5 gc hsrc hok
      generalize someW (longC B win W) W n7 = w7 at *
      have hBW7 := hC7.1
      have hz7 := hC7.2.1
      have hX7 := hide (hXW.out.trans (hBW7.mono (by omega)))
      replace e0 := (hBW7.cell (p := ⟨w.heap.size, 0, none⟩) (by show w.heap.size < _; omega)).trans e0
      replace e1 := (hBW7.cell (p := ⟨w.heap.size, 1, none⟩) (by show w.heap.size < _; omega)).trans e1
      replace s0 := (hBW7.cell (p := ⟨w.heap.size + 1, 0, none⟩) hz).trans s0
      replace s2 := (hBW7.cell (p := ⟨w.heap.size + 1, 2, none⟩) hz).trans s2
      replace s3 := (hBW7.cell (p := ⟨w.heap.size + 1, 3, none⟩) hz).trans s3
      replace s5 := (hBW7.cell (p := ⟨w.heap.size + 1, 5, none⟩) hz).trans s5
      have hq : RdS w7 w7.heap.size r7 (p ++ [⟨neg, kind, mn, mx, strict, cmps⟩]) := by
        have h1 : OwR w7 (B + 1) r7 (ps ++ [(⟨neg, kind, mn, mx, strict, cmps⟩, .slice Ac cmps.length kc)]) := by simpa [OwR, hpl] using hrow7
        have h2 := rd_of_row h1 (fun x hx => by
          rcases List.mem_append.1 hx with h | h
          · exact (hrd.out x h).below (hBW7.mono (by omega)) (by omega)
          · rw [List.mem_singleton.1 h]
            exact hrc.out.below hX7.out (by omega))
        simpa [hps.out] using h2
      obtain ⟨A7, k7, hr7⟩ := own_form hrow7
      subst hr7
      have q0 := hb7.cell 0
      have q1 := hb7.cell 1
      simp at q0 q1
      clear hC7 hCW hbq hXW hrd hps hrow7 hb7 hC0 s1 s4 hpl n2 n3 hWz hBW7
      have hc21 : ∀ t ∈ p ++ [(⟨neg, kind, mn, mx, strict, cmps⟩ : Sp)], t.cmps.length ≤ 21 := fun t ht => by
        rcases List.mem_append.1 ht with h | h
        · have := hc20.out t h; omega
        · rw [List.mem_singleton.1 h]; show cmps.length ≤ 21; omega
      have hlg2 := hide fun w1 (hb : Below w7.heap.size w7 w1) => long_any _ win _ w1 (hq.below hb hb.size) (by simp; omega)
      have hpo2 := hide fun w1 (hb : Below w7.heap.size w7 w1) => positive_any _ win _ w1 (hq.below hb hb.size) (by simp; omega)
      have hsi2 := hide fun w1 (hb : Below w7.heap.size w7 w1) => size_any _ win _ w1 (hq.below hb hb.size) (by simp; omega) hc21
      clear hq hc21
      rw [leastL_snoc, mostL_snoc] at hlg2
      rw [positive_snoc] at hpo2
      rw [sizeF_snoc] at hsi2
      simp only at hlg2 hpo2 hsi2
      obtain ⟨lq, hlq⟩ : ∃ lq, leastL p + (if neg = true then 0 else within mn) = lq := ⟨_, rfl⟩
      obtain ⟨mq, hmq⟩ : ∃ mq, mostL p + (if neg = true then 0 else within mx) = mq := ⟨_, rfl⟩
      obtain ⟨pq, hpq⟩ : ∃ pq, positive p ++ (if neg = true then [] else [(p.length : Int)]) = pq := ⟨_, rfl⟩
      obtain ⟨sq, hsq⟩ : ∃ sq, sizeF p + (1 + 3 * (cmps.length : Int)) = sq := ⟨_, rfl⟩
      rw [hlq, hmq] at hlg2
      rw [hpq] at hpo2
      rw [hsq] at hsi2
      have bl := leastL_le p
      have bm := mostL_le p
      have bs := sizeF_le p hc20.out
      have bp := positive_len p
      generalize leastL p = lp at *
      generalize mostL p = mp at *
      generalize sizeF p = sp at *
      generalize positive p = pp at *
      have hw1 : IntKind.i64.wrap (sp + 1) = sp + 1 := IntWalk.i64_in _ (by omega)
      have hw2 : IntKind.i64.wrap (3 * (cmps.length : Int)) = 3 * (cmps.length : Int) := IntWalk.i64_in _ (by omega)
      have hw3 : IntKind.i64.wrap (sp + 1 + 3 * (cmps.length : Int)) = sq := by rw [← hsq, IntWalk.i64_in _ (by omega)]; omega
      replace bl := hide bl
      replace bm := hide bm
      replace bs := hide bs
      replace hlq := hide hlq
      replace hmq := hide hmq
      replace hpq := hide hpq
      replace hsq := hide hsq
      go_upto_region 7 with (go_at_call 21; (with_reducible refine (stayf (G := w7.heap.size) (hlg2.out _ (Below.refl _ _)) (Nat.le_refl _)).mono ?_); rintro e w8 ⟨rfl, hc8, hf8, hz8, hB8⟩)
      have hX8 := hide (hX7.out.trans (hB8.out.mono hX7.out.size))
      have hz8' : w.heap.size + 1 < w8.heap.size := by omega
      have hz80 : w.heap.size < w8.heap.size := by omega
      have hz8B : B < w8.heap.size := by omega
      replace e0 := (hc8 _ 0 (by omega)).trans e0
      replace e1 := (hc8 _ 1 (by omega)).trans e1
      replace s0 := (hc8 _ 0 (by omega)).trans s0
      replace s2 := (hc8 _ 2 (by omega)).trans s2
      replace s3 := (hc8 _ 3 (by omega)).trans s3
      replace s5 := (hc8 _ 5 (by omega)).trans s5
      replace q0 := (hc8 _ 0 hz7).trans q0
      replace q1 := (hc8 _ 1 hz7).trans q1
      clear hc8 hf8 hlg2 hlg
      refine wp_region_tab w8.heap.size (Nat.le_refl _) [(1, rowF w8.heap.size pp), (3, rowF w8.heap.size pq)] [] (by kernel_rfl) (by kernel_rfl) ?tabok ?_
      case tabok =>
        intro p hp
        simp only [List.mem_cons, List.not_mem_nil, or_false] at hp
        rcases hp with rfl | rfl <;> exact rowF_ok _ _
      repeat (refine wpRel_one rfl (fun K hK => ?_); go_simp; refine hK _ _ ?_; clear hK K)
      refine wpTab_eff (rowF w8.heap.size pp) rfl (fun K hK => ?_)
      go_simp
      refine ⟨fun n => tab_row (Nat.le_refl _) (fun w1 hb hz => hpo.out w1 (hX8.out.trans (hb.mono hX8.out.size))), fun v hv => ?_⟩
      obtain ⟨Al, kl, rfl⟩ := hv
      refine hK _ _ ?_
      clear hK K
      repeat (refine wpRel_one rfl (fun K hK => ?_); go_simp; refine hK _ _ ?_; clear hK K)
      refine wpTab_eff (rowF w8.heap.size pq) rfl (fun K hK => ?_)
      go_simp
      refine ⟨fun n => tab_row (Nat.le_refl _) (fun w1 hb hz => hpo2.out w1 (hB8.out.trans (hb.mono hz8))), fun v hv => ?_⟩
      obtain ⟨Am, km, rfl⟩ := hv
      refine hK _ _ ?_
      clear hK K
      repeat (refine wpRel_one rfl (fun K hK => ?_); go_simp; refine hK _ _ ?_; clear hK K)
      refine wpRel_nil ?_
      rintro w9 ⟨n9, rfl⟩ hΓ
      have o1 : OwI (grown w8.heap.size w8 n9) w8.heap.size (.slice Al pp.length kl) pp := hΓ _ (List.mem_cons_of_mem _ (List.mem_cons_self ..))
      have o2 : OwI (grown w8.heap.size w8 n9) w8.heap.size (.slice Am pq.length km) pq := hΓ _ (List.mem_cons_self ..)
      clear hΓ hpo hpo2
      have hB9 := hide (grown_below w8.heap.size w8 n9)
      have hz9 := grown_size w8.heap.size w8 n9 (Nat.le_refl _)
      generalize grown w8.heap.size w8 n9 = w9 at *
      replace o1 := hide o1
      replace o2 := hide o2
      have hX9 := hide (hX8.out.trans (hB9.out.mono hX8.out.size))
      have h79 := hide (hB8.out.trans (hB9.out.mono hz8))
      replace e0 := (hB9.out.cell (p := ⟨w.heap.size, 0, none⟩) hz80).trans e0
      replace e1 := (hB9.out.cell (p := ⟨w.heap.size, 1, none⟩) hz80).trans e1
      replace s0 := (hB9.out.cell (p := ⟨w.heap.size + 1, 0, none⟩) hz8').trans s0
      replace s2 := (hB9.out.cell (p := ⟨w.heap.size + 1, 2, none⟩) hz8').trans s2
      replace s3 := (hB9.out.cell (p := ⟨w.heap.size + 1, 3, none⟩) hz8').trans s3
      replace s5 := (hB9.out.cell (p := ⟨w.heap.size + 1, 5, none⟩) hz8').trans s5
      replace q0 := (hB9.out.cell (p := ⟨B, 0, none⟩) hz8B).trans q0
      replace q1 := (hB9.out.cell (p := ⟨B, 1, none⟩) hz8B).trans q1
      have hz9' : w.heap.size + 1 < w9.heap.size := by omega
      have hz90 : w.heap.size < w9.heap.size := by omega
      have hz9B : B < w9.heap.size := by omega
      have hz9h := hide hz9
      go_upto_region 8 with (fail)
      refine wp_region_tab w9.heap.size (Nat.le_refl _) [(1, valF (.int .i64 sq)), (3, valF (.int .i64 sp))] [] (by kernel_rfl) (by kernel_rfl) ?tabok8 ?_
      case tabok8 =>
        intro p hp
        simp only [List.mem_cons, List.not_mem_nil, or_false] at hp
        rcases hp with rfl | rfl <;> exact valF_ok _
      repeat (refine wpRel_one rfl (fun K hK => ?_); go_simp; refine hK _ _ ?_; clear hK K)
      refine wpTab_eff (valF (.int .i64 sq)) rfl (fun K hK => ?_)
      go_simp
      refine ⟨fun n => tab_val (Nat.le_refl _) (fun w1 hb hz => hsi2.out w1 (h79.out.trans (hb.mono h79.out.size))), ?_⟩
      refine hK _ _ ?_
      clear hK K
      repeat (refine wpRel_one rfl (fun K hK => ?_); go_simp; refine hK _ _ ?_; clear hK K)
      refine wpTab_eff (valF (.int .i64 sp)) rfl (fun K hK => ?_)
      go_simp
      refine ⟨fun n => tab_val (Nat.le_refl _) (fun w1 hb hz => hsi.out w1 (hX9.out.trans (hb.mono hX9.out.size))), ?_⟩
      refine hK _ _ ?_
      clear hK K
      repeat (refine wpRel_one rfl (fun K hK => ?_); go_simp; refine hK _ _ ?_; clear hK K)
      refine wpRel_nil ?_
      rintro w10 ⟨n10, rfl⟩ hΓ
      clear hΓ hsi hsi2
      have hB10 := hide (grown_below w9.heap.size w9 n10)
      have hz10 := grown_size w9.heap.size w9 n10 (Nat.le_refl _)
      generalize grown w9.heap.size w9 n10 = w10 at *
      have hX10 := hide (hX9.out.trans (hB10.out.mono hX9.out.size))
      replace e0 := (hB10.out.cell (p := ⟨w.heap.size, 0, none⟩) hz90).trans e0
      replace s0 := (hB10.out.cell (p := ⟨w.heap.size + 1, 0, none⟩) hz9').trans s0
      replace s2 := (hB10.out.cell (p := ⟨w.heap.size + 1, 2, none⟩) hz9').trans s2
      replace s3 := (hB10.out.cell (p := ⟨w.heap.size + 1, 3, none⟩) hz9').trans s3
      replace o1 := hide (o1.out.below hB10.out (Nat.le_refl _))
      replace o2 := hide (o2.out.below hB10.out (Nat.le_refl _))
      clear e1 s5 q0 q1 hB8 hB9 hB10 hw1 hw2 hw3 hX7 hX8 hX9 h79
      cases neg with
      | true =>
        have z1 : lq = lp := by have := hlq.out; simp at this; exact this.symm
        have z2 : mq = mp := by have := hmq.out; simp at this; exact this.symm
        have z3 : pq = pp := by have := hpq.out; simp at this; exact this.symm
        subst z1 z2 z3
        have hin := hide (ints_true _ _ _ w10 o1.out.rd o2.out.rd)
        go_wp2_with (first | (go_at_call 23; (with_reducible refine (stayf (G := w10.heap.size) hin.out (Nat.le_refl _)).mono ?_); rintro e w11 ⟨rfl, hc11, hf11, hz11, hB11⟩) | (go_at_call 14; (with_reducible refine (wakes08_true _).mono ?_); rintro e w12 ⟨rfl, hB12⟩))
        go_ret
        exact ⟨rfl, hX10.out.trans ((hB11.out.trans (hB12.mono hz11)).mono hX10.out.size)⟩
      | false =>
        have z1 : lp + within mn = lq := by have := hlq.out; simpa using this
        have z2 : mp + within mx = mq := by have := hmq.out; simpa using this
        have z3 : pp ++ [(p.length : Int)] = pq := by have := hpq.out; simpa using this
        go_upto_region 12 with (fail)
        have hCW : long2C w10.heap.size w10 w10 := ⟨Below.refl _ _, Nat.le_refl _⟩
        have hC0 : long2C w10.heap.size w10 w10.drew := ⟨(Below.refl _ _).drew, Nat.le_refl _⟩
        have hz11' : w.heap.size + 1 < w10.heap.size := by omega
        have gc := hide fun (b o : Nat) (n : World) (hb : b < w10.heap.size) => (someW_is n hCW).1.cell (p := ⟨b, o, none⟩) hb
        have f0 := fun n => (gc.out _ 0 n (by omega)).trans e0
        have t2 := fun n => (gc.out _ 2 n hz11').trans s2
        have t3 := fun n => (gc.out _ 3 n hz11').trans s3
        clear e0 s0 s2 s3
        replace hCW := hide hCW
        have hok := hide (long2L_ok w10.heap.size pp.length (pp.map (Value.int .i64)) [.int .i64 p.length])
        refine wp_region_inv (long2C w10.heap.size w10) (long2L w10.heap.size pp.length (pp.map (Value.int .i64)) [.int .i64 p.length]) [(22, [20]), (27, [22, 26]), (28, [27])] hC0 (by kernel_rfl) (by kernel_rfl) (fun p hp => (hok.out p hp).inh) ?_
        have hw1 : IntKind.i64.wrap (lp + min (max mn 0) 1099511627776) = lq := by
          have h1 := within_le mn
          have h2 := bl.out
          rw [← within_minmax, IntWalk.i64_in _ (by omega)]
          exact z1
        have hw2 : IntKind.i64.wrap (mp + min (max mx 0) 1099511627776) = mq := by
          have h1 := within_le mx
          have h2 := bm.out
          rw [← within_minmax, IntWalk.i64_in _ (by omega)]
          exact z2
        repeat (refine wpRel_one rfl (fun K hK => ?_); go_simp; refine hK _ _ ?_; clear hK K)
        refine wpTab_eff (fullG 3 w10.heap.size 0 []) rfl (fun K hK => ?_)
        go_simp
        refine ⟨fun n => ?_, fun v hv => ?_⟩
        · have ha := inv_alloc hCW.out (long2C_below w10.heap.size w10) hok.out (.cells #[] 3) n
          exact ⟨ha.1, ha.2, fullG_new (someW_is n hCW.out).2⟩
        obtain ⟨g20, rfl⟩ := hv
        refine hK _ _ ?_
        clear hK K
        repeat (refine wpRel_one rfl (fun K hK => ?_); go_simp; refine hK _ _ ?_; clear hK K)
        refine wpTab_eff (rowG 3 1 w10.heap.size pp.length (pp.map (Value.int .i64))) rfl (fun K hK => ?_)
        rw [if_pos (by rfl)]
        refine ⟨fun x hx hΓ => ?_, fun v hv => ?_⟩
        · obtain ⟨n, rfl⟩ := hx
          obtain ⟨g, e1, e2, e3⟩ := hΓ (20, _) (List.mem_cons_self ..) (show (20 : Nat) ∈ [20] by decide)
          have hC := someW_is n hCW.out
          obtain ⟨i0, hi, hy0, hy1, hy2⟩ := info_parts int_info
          injection e1 with e4 _ _
          injection e4 with e4
          injection e4 with e4 _ _
          subst e4
          have hsr := OwI.src (o1.out.below hC.1 (Nat.le_refl _))
          obtain ⟨v', w', hrun, hrow, hb⟩ := run_app_empty (t := 39) (ty := 39) Try.underlying39 hi hy0 hy1 hy2 rfl e3 e2 hC.2 Al pp.length kl (pp.map (Value.int .i64)) hsr.1 (by simp) hsr.2 (by intro u hu; obtain ⟨y, -, rfl⟩ := List.mem_map.1 hu; rfl) (by unfold maxLen; omega) (by omega)
          exact relEff_append (s := .tmp 93) (x := .tmp 94) rfl rfl rfl hrun ⟨(inv_below hCW.out (long2C_below w10.heap.size w10) hok.out hb).1, (inv_below hCW.out (long2C_below w10.heap.size w10) hok.out hb).2, own_form hrow, hrow⟩
        obtain ⟨A22, k22, rfl⟩ := hv
        refine hK _ _ ?_
        clear hK K
        repeat (refine wpRel_one rfl (fun K hK => ?_); go_simp; refine hK _ _ ?_; clear hK K)
        refine wpTab_eff (fullG 3 w10.heap.size 1 [.int .i64 p.length]) rfl (fun K hK => ?_)
        go_simp
        refine ⟨fun n => ?_, fun v hv => ?_⟩
        · have ha := inv_alloc hCW.out (long2C_below w10.heap.size w10) hok.out (.cells #[.int .i64 p.length] 3) n
          exact ⟨ha.1, ha.2, fullG_new (someW_is n hCW.out).2⟩
        obtain ⟨g26, rfl⟩ := hv
        refine hK _ _ ?_
        clear hK K
        repeat (refine wpRel_one rfl (fun K hK => ?_); go_simp; refine hK _ _ ?_; clear hK K)
        refine wpTab_eff (rowG 3 1 w10.heap.size (pp.length + 1) (pp.map (Value.int .i64) ++ [.int .i64 p.length])) rfl (fun K hK => ?_)
        rw [if_pos (by rfl)]
        refine ⟨fun x hx hΓ => ?_, fun v hv => ?_⟩
        · obtain ⟨n, rfl⟩ := hx
          obtain ⟨g, e1, e2, e3⟩ := hΓ (26, _) (List.mem_cons_self ..) (show (26 : Nat) ∈ [22, 26] by decide)
          have e6 : (someW (long2C w10.heap.size w10) w10 n).ownsRow w10.heap.size 3 1 (.slice A22 pp.length k22) pp.length (pp.map (Value.int .i64)) := hΓ (22, _) (List.mem_cons_of_mem _ (List.mem_cons_self ..)) (show (22 : Nat) ∈ [22, 26] by decide)
          have hC := someW_is n hCW.out
          obtain ⟨i0, hi, hy0, hy1, hy2⟩ := info_parts int_info
          injection e1 with e4 _ _
          injection e4 with e4
          injection e4 with e4 _ _
          subst e4
          obtain ⟨v', w', hrun, hrow, hb, hO⟩ := run_app_row (t := 39) (ty := 39) Try.underlying39 hi hy0 hy1 hy2 rfl e6 hC.2 ⟨g26, 0, none⟩ 1 [.int .i64 p.length] rfl (blk_news e3) (by intro u hu; rw [List.mem_singleton.1 hu]; rfl) (by unfold maxLen; omega) (by omega)
          exact relEff_append (s := .tmp 95) (x := .tmp 99) rfl rfl rfl hrun ⟨⟨w', (someW_of ⟨hC.1.trans hb, Nat.le_trans hC.2 hb.size⟩).symm⟩, long2L_ovr hO (by simp) rfl, own_form hrow, hrow⟩
        obtain ⟨A27, k27, rfl⟩ := hv
        refine hK _ _ ?_
        clear hK K
        repeat (refine wpRel_one rfl (fun K hK => ?_); go_simp; refine hK _ _ ?_; clear hK K)
        refine wpTab_eff (valF (.bool true)) rfl (fun K hK => ?_)
        go_simp
        refine ⟨fun n ho => ?_, ?_⟩
        · have ho' : OwI (someW (long2C w10.heap.size w10) w10 n) w10.heap.size (.slice A27 (pp.length + 1) k27) pq := by
            have h1 : (someW (long2C w10.heap.size w10) w10 n).ownsRow w10.heap.size 3 1 (.slice A27 (pp.length + 1) k27) (pp.length + 1) (pp.map (Value.int .i64) ++ [.int .i64 p.length]) := ho
            rw [← z3]
            simpa [OwI] using h1
          exact inv_val hCW.out (long2C_below w10.heap.size w10) hok.out (ints_true pq _ _ _ (o2.out.below (someW_is n hCW.out).1 (Nat.le_refl _)).rd ho'.rd)
        refine hK _ _ ?_
        clear hK K
        repeat (refine wpRel_one rfl (fun K hK => ?_); go_simp; refine hK _ _ ?_; clear hK K)
        refine wpTab_eff (valF (.bool true)) rfl (fun K hK => ?_)
        go_simp
        refine ⟨fun n => inv_val hCW.out (long2C_below w10.heap.size w10) hok.out (wakes08_true _), ?_⟩
        refine hK _ _ ?_
        clear hK K
        repeat (refine wpRel_one rfl (fun K hK => ?_); go_simp; refine hK _ _ ?_; clear hK K)
        refine wpRel_nil ?_
        rintro w11 ⟨n11, rfl⟩ hΓ
        clear hΓ
        have hB11 := hide (someW_is n11 hCW.out).1
        clear f0 t2 t3
        generalize someW (long2C w10.heap.size w10) w10 n11 = w11 at *
        go_wp2
        go_ret
        exact ⟨rfl, hX10.out.trans (hB11.out.mono hX10.out.size)⟩
end Go.Proofs.Ytidddeobachjgaa
