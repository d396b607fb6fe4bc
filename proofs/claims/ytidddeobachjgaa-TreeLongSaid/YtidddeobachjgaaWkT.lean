/- The examples of the layer of trees: wakes() is true. -/
import Derived.Test.YtidddeobachjgaaTrQ
import Derived.Test.YtidddeobachjgaaTrO
import Derived.Test.YtidddeobachjgaaTrJ
import Derived.Test.YtidddeobachjgaaTrH
import Derived.Test.YtidddeobachjgaaLibU
import Derived.Deep.Cut
namespace Go.Proofs.Ytidddeobachjgaa
open Go.RowKit
attribute [local go_sem] relVal relEff dT grown_cell grown_frozen valF rowF patF

theorem stayo {P : Program} {f : FuncId} {args : Array Value} {W : World} {R : World → Value → Prop} {G : Nat} (h : Calls P f args W fun e w' => (∃ v, e = .returned v ∧ R w' v) ∧ Below W.heap.size W w') (hG : G ≤ W.heap.size) :
    Calls P f args W fun e w' => (∃ v, e = .returned v ∧ R w' v) ∧ (∀ b o, b < G → w'.cell? ⟨b, o, none⟩ = W.cell? ⟨b, o, none⟩) ∧ (∀ b o, b < G → w'.frozen? ⟨b, o, none⟩ = W.frozen? ⟨b, o, none⟩) ∧ G ≤ w'.heap.size ∧ Hid (Below G W w') :=
  h.mono fun _ _ ⟨he, hb⟩ => ⟨he, fun _ _ hlt => (hb.mono hG).cell (p := ⟨_, _, none⟩) hlt, fun _ _ hlt => (hb.mono hG).frozen (p := ⟨_, _, none⟩) hlt, Nat.le_trans hG hb.size, hb.mono hG⟩

theorem rdi_new (w : World) (l : List Int) (hl : l.length ≤ maxLen) : RdI (w.alloc (.cells (l.map (Value.int .i64)).toArray 3)) (w.alloc (.cells (l.map (Value.int .i64)).toArray 3)).heap.size (.slice (some ⟨w.heap.size, 0, none⟩) l.length l.length) l :=
  (OwF.ow (base := 0) (.inr ⟨_, rfl, Nat.zero_le _, Blk.new _ _ _⟩) hl).rd
theorem ints_true (l : List Int) (v u : Value) (w : World) (hv : RdI w w.heap.size v l) (hu : RdI w w.heap.size u l) :
    Calls Try.prog 23 #[v, u] w fun e w' => e = .returned (.bool true) ∧ Below w.heap.size w w' := by
  have := ints_any l l v u w hv hu
  simpa using this

abbrev dC : Cm := ⟨1, ⟨5, 0, 2, 0⟩, ⟨0, -5, 0, 0⟩⟩
abbrev xC : Cm := ⟨3, ⟨2, 0, 1, 0⟩, ⟨1, 7, 0, 0⟩⟩
abbrev bC : Cm := ⟨1, ⟨2, 0, 0, 1⟩, ⟨0, 0, 0, 0⟩⟩
theorem two_built (w : World) : Calls Try.prog 39 #[] w fun e w' =>
    (∃ g c1 c2, e = .returned (ptV (.slice (some ⟨g, 0, none⟩) 2 2) 9) ∧ Blk w' g 30 #[.bool false, .int .i64 1, .int .i64 1, .int .i64 3, .bool false, .slice (some ⟨c1, 0, none⟩) 1 1, .bool true, .int .i64 0, .int .i64 1, .int .i64 1, .bool false, .slice (some ⟨c2, 0, none⟩) 2 2] ∧
      Blk w' c1 36 dC.cells.toArray ∧ Blk w' c2 36 (dC.cells ++ xC.cells).toArray ∧ w.heap.size ≤ c1 ∧ c1 < c2 ∧ c2 < g) ∧ Below w.heap.size w w' := by
  go_enter Try.func39, Try.ntmps39
  go_wp2
  refine bodyPost_ret (v := ptV (.slice (some ⟨w.heap.size + 1 + 1 + 1 + 1 + 1, 0, none⟩) 2 2) 9) (by simp [results, Try.f39, go_sem]) rfl ⟨⟨_, _, _, rfl, Blk.new_ (by simp) _ _, ((Blk.new_ (by simp) _ _).alloc _).alloc _, (Blk.new_ (by simp) _ _).alloc _, by omega, by omega, by omega⟩, ?_⟩
  exact ((((((Below.refl _ _).alloc (Nat.le_refl _) _).alloc (by simp) _).alloc (by simp; omega) _).alloc (by simp; omega) _).alloc (by simp; omega) _).alloc (by simp; omega) _

abbrev s0T : Sp := ⟨false, 1, 1, 3, false, [dC]⟩
abbrev s1T : Sp := ⟨true, 0, 1, 1, false, [dC, xC]⟩
abbrev sbT : Sp := ⟨true, 0, 1, 1, false, [bC]⟩

set_option maxRecDepth 100000 in
set_option maxHeartbeats 8000000 in
theorem wakes08_true (w : World) : Calls Try.prog 14 #[] w fun e w' => e = .returned (.bool true) ∧ Below w.heap.size w w' := by
  go_enter Try.func14, Try.ntmps14
  go_wp2_with fail
  refine (two_built _).mono ?_
  rintro e w1 ⟨⟨g1, c1, k1, rfl, hg1, hc1, hk1, n1, n2, n3⟩, hB1⟩
  have hz1 := hg1.lt
  replace hg1 := hide hg1
  replace hc1 := hide hc1
  replace hk1 := hide hk1
  replace hB1 := hide hB1
  go_wp2_with fail
  refine (two_built _).mono ?_
  rintro e w2 ⟨⟨g2, c2, k2, rfl, hg2, hc2, hk2, m1, m2, m3⟩, hB2⟩
  replace hg1 := hide (hg1.out.below hB2 hz1)
  replace hc1 := hide (hc1.out.below hB2 (by omega))
  replace hk1 := hide (hk1.out.below hB2 (by omega))
  replace hB1 := hide (hB1.out.trans (hB2.mono hB1.out.size))
  have hz2 := hg2.lt
  replace hg2 := hide hg2
  replace hc2 := hide hc2
  replace hk2 := hide hk2
  clear hB2
  go_upto_region 2 with (fail)
  obtain ⟨W, hW⟩ : ∃ W, (w2.alloc (.cells #[.slice (some ⟨g1, 0, none⟩) 2 2, .int .i64 9] 24)).alloc (.cells #[.slice (some ⟨g2, 0, none⟩) 2 2, .int .i64 9] 24) = W := ⟨_, rfl⟩
  rw [hW]
  have p1 : Blk W w2.heap.size 24 #[.slice (some ⟨g1, 0, none⟩) 2 2, .int .i64 9] := by rw [← hW]; exact (Blk.new_ rfl _ _).alloc _
  have p2 : Blk W (w2.heap.size + 1) 24 #[.slice (some ⟨g2, 0, none⟩) 2 2, .int .i64 9] := by rw [← hW]; exact Blk.new_ (by simp) _ _
  replace hg1 : Blk W g1 30 #[.bool false, .int .i64 1, .int .i64 1, .int .i64 3, .bool false, .slice (some ⟨c1, 0, none⟩) 1 1, .bool true, .int .i64 0, .int .i64 1, .int .i64 1, .bool false, .slice (some ⟨k1, 0, none⟩) 2 2] := by rw [← hW]; exact (hg1.out.alloc _).alloc _
  replace hc1 : Blk W c1 36 dC.cells.toArray := by rw [← hW]; exact (hc1.out.alloc _).alloc _
  replace hk1 : Blk W k1 36 (dC.cells ++ xC.cells).toArray := by rw [← hW]; exact (hk1.out.alloc _).alloc _
  replace hg2 : Blk W g2 30 #[.bool false, .int .i64 1, .int .i64 1, .int .i64 3, .bool false, .slice (some ⟨c2, 0, none⟩) 1 1, .bool true, .int .i64 0, .int .i64 1, .int .i64 1, .bool false, .slice (some ⟨k2, 0, none⟩) 2 2] := by rw [← hW]; exact (hg2.out.alloc _).alloc _
  replace hc2 : Blk W c2 36 dC.cells.toArray := by rw [← hW]; exact (hc2.out.alloc _).alloc _
  have hG : w.heap.size ≤ w2.heap.size := hB1.out.size
  replace hB1 : Below w.heap.size w W := by rw [← hW]; exact (hB1.out.alloc hG _).alloc (by simp; omega) _
  have hWz : W.heap.size = w2.heap.size + 1 + 1 := by rw [← hW]; simp
  clear hW hk2
  generalize w2.heap.size = b at *
  have q2 := p2.cell 0
  have r2 := hg2.cell 11
  have f2 := hg2.frozen 11
  simp at q2 r2
  have o1 : g1 < b := by omega
  have o2 : g2 < b := by omega
  have o3 : W.heap.size = b + 1 + 1 := hWz
  replace o3 := hide o3
  replace hWz := hide hWz
  have o4 : b + 1 < W.heap.size := by rw [o3.out]; omega
  have o5 : g2 < W.heap.size := by omega
  replace p1 := hide p1
  replace p2 := hide p2
  replace hg1 := hide hg1
  replace hc1 := hide hc1
  replace hk1 := hide hk1
  replace hg2 := hide hg2
  replace hc2 := hide hc2
  replace hB1 := hide hB1
  go_upto_region 3 with (fail)
  obtain ⟨X, hX⟩ : ∃ X, (W.setCell ⟨g2, 11, none⟩ (.slice (some ⟨W.heap.size, 0, none⟩) 1 1)).alloc (.cells #[.int .u8 1, .int .u8 2, .int .i64 0, .int .i64 0, .int .i64 1, .int .u8 0, .int .i64 0, .int .i64 0, .int .i64 0] 36) = X := ⟨_, rfl⟩
  rw [hX]
  have p1x : Blk X b 24 #[.slice (some ⟨g1, 0, none⟩) 2 2, .int .i64 9] := by rw [← hX]; exact (p1.out.far (p := ⟨g2, 11, none⟩) (by simp; omega) _).alloc _
  have p2x : Blk X (b + 1) 24 #[.slice (some ⟨g2, 0, none⟩) 2 2, .int .i64 9] := by rw [← hX]; exact (p2.out.far (p := ⟨g2, 11, none⟩) (by simp; omega) _).alloc _
  have g1x : Blk X g1 30 #[.bool false, .int .i64 1, .int .i64 1, .int .i64 3, .bool false, .slice (some ⟨c1, 0, none⟩) 1 1, .bool true, .int .i64 0, .int .i64 1, .int .i64 1, .bool false, .slice (some ⟨k1, 0, none⟩) 2 2] := by rw [← hX]; exact (hg1.out.far (p := ⟨g2, 11, none⟩) (by simp; omega) _).alloc _
  have c1x : Blk X c1 36 dC.cells.toArray := by rw [← hX]; exact (hc1.out.far (p := ⟨g2, 11, none⟩) (by simp; omega) _).alloc _
  have k1x : Blk X k1 36 (dC.cells ++ xC.cells).toArray := by rw [← hX]; exact (hk1.out.far (p := ⟨g2, 11, none⟩) (by simp; omega) _).alloc _
  have g2x : Blk X g2 30 #[.bool false, .int .i64 1, .int .i64 1, .int .i64 3, .bool false, .slice (some ⟨c2, 0, none⟩) 1 1, .bool true, .int .i64 0, .int .i64 1, .int .i64 1, .bool false, .slice (some ⟨W.heap.size, 0, none⟩) 1 1] := by rw [← hX]; exact (hg2.out.set_ 11 _).alloc _
  have c2x : Blk X c2 36 dC.cells.toArray := by rw [← hX]; exact (hc2.out.far (p := ⟨g2, 11, none⟩) (by simp; omega) _).alloc _
  have bx : Blk X W.heap.size 36 bC.cells.toArray := by rw [← hX]; exact Blk.new_ (by simp [World.setCell]) _ _
  have hBX : Below w.heap.size w X := by rw [← hX]; exact (hB1.out.setCell (p := ⟨g2, 11, none⟩) (by simp; omega) _).alloc (by have := hB1.out.size; simpa [World.setCell] using this) _
  clear hX p1 p2 hg1 hc1 hk1 hg2 hc2 hB1 q2 r2 f2
  have rp : RdS X X.heap.size (.slice (some ⟨g1, 0, none⟩) 2 2) [s0T, s1T] := rd_of_row (ps := [(s0T, .slice (some ⟨c1, 0, none⟩) 1 1), (s1T, .slice (some ⟨k1, 0, none⟩) 2 2)]) (base := 0) (own_of_blk g1x (Nat.zero_le _) rfl (by decide)) (by
    intro x hx
    simp only [List.mem_cons, List.not_mem_nil, or_false] at hx
    rcases hx with rfl | rfl
    · exact rdc_blk c1x rfl (by simp) (by simp)
    · exact rdc_blk k1x rfl (by simp) (by simp))
  have rb : RdS X X.heap.size (.slice (some ⟨g2, 0, none⟩) 2 2) [s0T, sbT] := rd_of_row (ps := [(s0T, .slice (some ⟨c2, 0, none⟩) 1 1), (sbT, .slice (some ⟨W.heap.size, 0, none⟩) 1 1)]) (base := 0) (own_of_blk g2x (Nat.zero_le _) rfl (by decide)) (by
    intro x hx
    simp only [List.mem_cons, List.not_mem_nil, or_false] at hx
    rcases hx with rfl | rfl
    · exact rdc_blk c2x rfl (by simp) (by simp)
    · exact rdc_blk bx rfl (by simp) (by simp))
  have rk : RdC X X.heap.size (.slice (some ⟨k1, 0, none⟩) 2 2) [dC, xC] := rdc_blk k1x rfl (by simp) (by simp)
  have l1 := p1x.lt
  have l2 := p2x.lt
  have l3 := g1x.lt
  have l4 := c1x.lt
  have e10 := p1x.cell 0
  have e11 := p1x.cell 1
  have e20 := p2x.cell 0
  have e21 := p2x.cell 1
  have s5 := g1x.cell 5
  have s6 := g1x.cell 6
  have s7 := g1x.cell 7
  have s8 := g1x.cell 8
  have s9 := g1x.cell 9
  have s10 := g1x.cell 10
  have s11 := g1x.cell 11
  have t1 : X.cell? ⟨c1, 1, none⟩ = some (.int .u8 5) := c1x.cell 1
  have t2 : X.cell? ⟨c1, 2, none⟩ = some (.int .i64 0) := c1x.cell 2
  have t3 : X.cell? ⟨c1, 3, none⟩ = some (.int .i64 2) := c1x.cell 3
  have t4 : X.cell? ⟨c1, 4, none⟩ = some (.int .i64 0) := c1x.cell 4
  simp at e10 e11 e20 e21 s5 s6 s7 s8 s9 s10 s11
  clear p1x p2x g1x c1x k1x g2x c2x bx o1 o2 o3 o4 o5 hWz hz1 hz2 n1 n2 n3 m1 m2 m3 hG
  have h1 := hide fun w1 (hb : Below X.heap.size X w1) => long_any [s0T, s1T] 9 _ w1 (rp.below hb hb.size) (by simp)
  have h2 := hide fun w1 => tnames_any ⟨5, 0, 2, 0⟩ w1
  have h3 := hide fun w1 => tnames_any ⟨0, 3, 0, 0⟩ w1
  have h4 := hide fun w1 (hb : Below X.heap.size X w1) => asked_any s1T _ w1 (rk.below hb hb.size) (by simp)
  have h5 := hide fun w1 (hb : Below X.heap.size X w1) => positive_any [s0T, s1T] 9 _ w1 (rp.below hb hb.size) (by simp)
  have h6 := hide fun w1 (hb : Below X.heap.size X w1) => size_any [s0T, s1T] 9 _ w1 (rp.below hb hb.size) (by simp) (by simp)
  have h7 := hide fun w1 (hb : Below X.heap.size X w1) => right_any [s0T, s1T] 9 _ w1 (rp.below hb hb.size)
  have h8 := hide fun w1 (hb : Below X.heap.size X w1) => right_any [s0T, sbT] 9 _ w1 (rb.below hb hb.size)
  have h9 := hide fun w1 => right_any [] 0 _ w1 (rds_nil w1)
  have h10 := hide fun w1 (hb : Below X.heap.size X w1) => own_any [s0T, s1T] 9 _ w1 (rp.below hb hb.size) (by simp) (by simp)
  have h11 := hide fun v w1 (hb : Below X.heap.size X w1) (hv : RdS w1 w1.heap.size v [s0T, s1T]) => same_any [s0T, s1T] [s0T, s1T] 9 9 v _ w1 hv (rp.below hb hb.size)
  have h12 := hide fun w1 (hb : Below X.heap.size X w1) => same_any [s0T, s1T] [s0T, sbT] 9 9 _ _ w1 (rp.below hb hb.size) (rb.below hb hb.size)
  rw [show leastL [s0T, s1T] = 1 by decide, show mostL [s0T, s1T] = 3 by decide] at h1
  rw [show Tm.names ⟨5, 0, 2, 0⟩ = [2, 0] by decide] at h2
  rw [show Tm.names ⟨0, 3, 0, 0⟩ = [] by decide] at h3
  rw [show asked s1T.cmps = [0, 1, 2] by decide] at h4
  rw [show positive [s0T, s1T] = [0] by decide] at h5
  rw [show sizeF [s0T, s1T] = 11 by decide] at h6
  rw [show rightB [s0T, s1T] 9 = true by decide] at h7
  rw [show rightB [s0T, sbT] 9 = false by decide] at h8
  rw [show rightB [] 0 = false by decide] at h9
  rw [show sameB [s0T, s1T] 9 [s0T, s1T] 9 = true by decide] at h11
  rw [show sameB [s0T, s1T] 9 [s0T, sbT] 9 = false by decide] at h12
  clear rp rb rk
  replace hBX := hide hBX
  have hXc := hide (Below.refl X.heap.size X)
  go_upto_region 4 with (go_at_call 21; (with_reducible refine (stayf (G := X.heap.size) (h1.out _ hXc.out) hXc.out.size).mono ?_); rintro e w5 ⟨rfl, hc5, hf5, hz5, hB5⟩; replace hXc := hide (hXc.out.trans hB5.out))
  have u10 := (hc5 _ 0 l1).trans e10
  have u11 := (hc5 _ 1 l1).trans e11
  have u20 := (hc5 _ 0 l2).trans e20
  have u21 := (hc5 _ 1 l2).trans e21
  have v5 := (hc5 _ 5 l3).trans s5
  have v6 := (hc5 _ 6 l3).trans s6
  have v7 := (hc5 _ 7 l3).trans s7
  have v8 := (hc5 _ 8 l3).trans s8
  have v9 := (hc5 _ 9 l3).trans s9
  have v10 := (hc5 _ 10 l3).trans s10
  have v11 := (hc5 _ 11 l3).trans s11
  have y1 := (hc5 _ 1 l4).trans t1
  have y2 := (hc5 _ 2 l4).trans t2
  have y3 := (hc5 _ 3 l4).trans t3
  have y4 := (hc5 _ 4 l4).trans t4
  have z1 : b < w5.heap.size := by omega
  have z2 : b + 1 < w5.heap.size := by omega
  have z3 : g1 < w5.heap.size := by omega
  have z4 : c1 < w5.heap.size := by omega
  clear e10 e11 e20 e21 s5 s6 s7 s8 s9 s10 s11 t1 t2 t3 t4 hc5 hf5 hB5 h1 l1 l2 l3 l4
  refine wp_region_tab w5.heap.size (Nat.le_refl _) [(8, rowF w5.heap.size [2, 0]), (9, rowF w5.heap.size [2, 0]), (10, valF (.bool true)), (13, rowF w5.heap.size []), (22, rowF w5.heap.size [0, 1, 2]), (23, rowF w5.heap.size [0, 1, 2]), (24, valF (.bool true)), (28, rowF w5.heap.size [0]), (29, rowF w5.heap.size [0]), (30, valF (.bool true)), (42, valF (.int .i64 11)), (47, valF (.bool true)), (51, valF (.bool false)), (56, valF (.bool false)), (61, patF w5.heap.size [s0T, s1T] 9), (63, valF (.bool true)), (68, valF (.bool false))]
    [(10, [8, 9]), (24, [22, 23]), (30, [28, 29]), (63, [61])] (by kernel_rfl) (by kernel_rfl) ?tabok ?_
  case tabok =>
    intro p hp
    simp only [List.mem_cons, List.not_mem_nil, or_false] at hp
    rcases hp with rfl | rfl | rfl | rfl | rfl | rfl | rfl | rfl | rfl | rfl | rfl | rfl | rfl | rfl | rfl | rfl | rfl <;> first | exact valF_ok _ | exact rowF_ok _ _ | exact patF_ok _ _ _
  repeat (refine wpRel_one rfl (fun K hK => ?_); go_simp; refine hK _ _ ?_; clear hK K)
  refine wpTab_eff (rowF w5.heap.size [2, 0]) rfl (fun K hK => ?_)
  go_simp
  refine ⟨fun n => tab_row (Nat.le_refl _) (fun w1 _ _ => h2.out w1), fun v hv => ?_⟩
  refine hK _ _ ?_
  clear hK K
  repeat (refine wpRel_one rfl (fun K hK => ?_); go_simp; refine hK _ _ ?_; clear hK K)
  refine wpTab_eff (rowF w5.heap.size [2, 0]) rfl (fun K hK => ?_)
  go_simp
  refine ⟨fun n => tab_alloc (G := w5.heap.size) (W := w5) (x := n) (Nat.le_refl _) [2, 0] (by decide), fun v hv => ?_⟩
  refine hK _ _ ?_
  clear hK K
  repeat (refine wpRel_one rfl (fun K hK => ?_); go_simp; refine hK _ _ ?_; clear hK K)
  refine wpTab_eff (valF (.bool true)) rfl (fun K hK => ?_)
  go_simp
  refine ⟨fun n ho1 ho2 => tab_val_at (Nat.le_refl _) (ints_true _ _ _ _ ho2.rd ho1.rd), ?_⟩
  refine hK _ _ ?_
  clear hK K
  repeat (refine wpRel_one rfl (fun K hK => ?_); go_simp; refine hK _ _ ?_; clear hK K)
  refine wpTab_eff (rowF w5.heap.size []) rfl (fun K hK => ?_)
  go_simp
  refine ⟨fun n => tab_row (Nat.le_refl _) (fun w1 _ _ => h3.out w1), fun v hv => ?_⟩
  obtain ⟨A5, k5, rfl⟩ := hv
  refine hK _ _ ?_
  clear hK K
  repeat (refine wpRel_one rfl (fun K hK => ?_); go_simp; refine hK _ _ ?_; clear hK K)
  refine wpTab_eff (rowF w5.heap.size [0, 1, 2]) rfl (fun K hK => ?_)
  go_simp
  refine ⟨fun n => tab_row (Nat.le_refl _) (fun w1 hb hz => h4.out w1 (hXc.out.trans (hb.mono hXc.out.size))), fun v hv => ?_⟩
  refine hK _ _ ?_
  clear hK K
  repeat (refine wpRel_one rfl (fun K hK => ?_); go_simp; refine hK _ _ ?_; clear hK K)
  refine wpTab_eff (rowF w5.heap.size [0, 1, 2]) rfl (fun K hK => ?_)
  go_simp
  refine ⟨fun n => tab_alloc (G := w5.heap.size) (W := w5) (x := n) (Nat.le_refl _) [0, 1, 2] (by decide), fun v hv => ?_⟩
  refine hK _ _ ?_
  clear hK K
  repeat (refine wpRel_one rfl (fun K hK => ?_); go_simp; refine hK _ _ ?_; clear hK K)
  refine wpTab_eff (valF (.bool true)) rfl (fun K hK => ?_)
  go_simp
  refine ⟨fun n ho1 ho2 => tab_val_at (Nat.le_refl _) (ints_true _ _ _ _ ho2.rd ho1.rd), ?_⟩
  refine hK _ _ ?_
  clear hK K
  repeat (refine wpRel_one rfl (fun K hK => ?_); go_simp; refine hK _ _ ?_; clear hK K)
  refine wpTab_eff (rowF w5.heap.size [0]) rfl (fun K hK => ?_)
  go_simp
  refine ⟨fun n => tab_row (Nat.le_refl _) (fun w1 hb hz => h5.out w1 (hXc.out.trans (hb.mono hXc.out.size))), fun v hv => ?_⟩
  refine hK _ _ ?_
  clear hK K
  repeat (refine wpRel_one rfl (fun K hK => ?_); go_simp; refine hK _ _ ?_; clear hK K)
  refine wpTab_eff (rowF w5.heap.size [0]) rfl (fun K hK => ?_)
  go_simp
  refine ⟨fun n => tab_alloc (G := w5.heap.size) (W := w5) (x := n) (Nat.le_refl _) [0] (by decide), fun v hv => ?_⟩
  refine hK _ _ ?_
  clear hK K
  repeat (refine wpRel_one rfl (fun K hK => ?_); go_simp; refine hK _ _ ?_; clear hK K)
  refine wpTab_eff (valF (.bool true)) rfl (fun K hK => ?_)
  go_simp
  refine ⟨fun n ho1 ho2 => tab_val_at (Nat.le_refl _) (ints_true _ _ _ _ ho2.rd ho1.rd), ?_⟩
  refine hK _ _ ?_
  clear hK K
  repeat (refine wpRel_one rfl (fun K hK => ?_); go_simp; refine hK _ _ ?_; clear hK K)
  refine wpTab_eff (valF (.int .i64 11)) rfl (fun K hK => ?_)
  go_simp
  refine ⟨fun n => tab_val (Nat.le_refl _) (fun w1 hb hz => h6.out w1 (hXc.out.trans (hb.mono hXc.out.size))), ?_⟩
  refine hK _ _ ?_
  clear hK K
  repeat (refine wpRel_one rfl (fun K hK => ?_); go_simp; refine hK _ _ ?_; clear hK K)
  refine wpTab_eff (valF (.bool true)) rfl (fun K hK => ?_)
  go_simp
  refine ⟨fun n => tab_val (Nat.le_refl _) (fun w1 hb hz => h7.out w1 (hXc.out.trans (hb.mono hXc.out.size))), ?_⟩
  refine hK _ _ ?_
  clear hK K
  repeat (refine wpRel_one rfl (fun K hK => ?_); go_simp; refine hK _ _ ?_; clear hK K)
  refine wpTab_eff (valF (.bool false)) rfl (fun K hK => ?_)
  go_simp
  refine ⟨fun n => tab_val (Nat.le_refl _) (fun w1 hb hz => h8.out w1 (hXc.out.trans (hb.mono hXc.out.size))), ?_⟩
  refine hK _ _ ?_
  clear hK K
  repeat (refine wpRel_one rfl (fun K hK => ?_); go_simp; refine hK _ _ ?_; clear hK K)
  refine wpTab_eff (valF (.bool false)) rfl (fun K hK => ?_)
  go_simp
  refine ⟨fun n => tab_val (Nat.le_refl _) (fun w1 hb hz => h9.out w1), ?_⟩
  refine hK _ _ ?_
  clear hK K
  repeat (refine wpRel_one rfl (fun K hK => ?_); go_simp; refine hK _ _ ?_; clear hK K)
  refine wpTab_eff (patF w5.heap.size [s0T, s1T] 9) rfl (fun K hK => ?_)
  go_simp
  refine ⟨fun n => tab_pat (Nat.le_refl _) (fun w1 hb hz => h10.out w1 (hXc.out.trans (hb.mono hXc.out.size))), fun sv => ?_⟩
  refine hK _ _ ?_
  clear hK K
  repeat (refine wpRel_one rfl (fun K hK => ?_); go_simp; refine hK _ _ ?_; clear hK K)
  refine wpTab_eff (valF (.bool true)) rfl (fun K hK => ?_)
  go_simp
  refine ⟨fun n ps hP hps => tab_val_at (Nat.le_refl _) (h11.out sv _ (hXc.out.trans ((grown_below _ _ _).mono hXc.out.size)) (by have := hP.rd; rwa [hps] at this)), ?_⟩
  refine hK _ _ ?_
  clear hK K
  repeat (refine wpRel_one rfl (fun K hK => ?_); go_simp; refine hK _ _ ?_; clear hK K)
  refine wpTab_eff (valF (.bool false)) rfl (fun K hK => ?_)
  go_simp
  refine ⟨fun n => tab_val (Nat.le_refl _) (fun w1 hb hz => h12.out w1 (hXc.out.trans (hb.mono hXc.out.size))), ?_⟩
  refine hK _ _ ?_
  clear hK K
  repeat (refine wpRel_one rfl (fun K hK => ?_); go_simp; refine hK _ _ ?_; clear hK K)
  refine wpRel_nil ?_
  rintro w7 ⟨n7, rfl⟩ hΓ
  clear hΓ
  have hB7 := hide (grown_below w5.heap.size w5 n7)
  generalize grown w5.heap.size w5 n7 = w7 at *
  go_wp2
  go_ret
  exact ⟨rfl, hBX.out.trans ((hXc.out.trans (hB7.out.mono hXc.out.size)).mono hBX.out.size)⟩
end Go.Proofs.Ytidddeobachjgaa
