/- The examples of the layer of checks: wakes() is true. -/
import Derived.Test.YtidddeobachjgaaChH
import Derived.Test.YtidddeobachjgaaLibS
import Derived.Deep.Cut
namespace Go.Proofs.Ytidddeobachjgaa
open Go.RowKit

theorem some_ne {a b : Nat} (h : a ≠ b) : some a ≠ some b := fun e => h (Option.some.inj e)
theorem one_any (w : World) : Calls Try.prog 55 #[] w fun e w' =>
    (∃ g, e = .returned (ptV (.slice (some ⟨g, 0, none⟩) 1 1) 5) ∧ Blk w' g 30 #[.bool false, .int .i64 0, .int .i64 1, .int .i64 1, .bool false, .slice none 0 0] ∧ w.heap.size ≤ g) ∧ Below w.heap.size w w' := by
  go_enter Try.func55, Try.ntmps55
  go_wp2
  refine bodyPost_ret (v := ptV (.slice (some ⟨w.heap.size + 1, 0, none⟩) 1 1) 5) (by simp [results, Try.f55, go_sem]) rfl ⟨⟨_, rfl, ?_, ?_⟩, ?_⟩
  · exact Blk.new_ (by simp) _ _
  · omega
  · exact ((Below.refl _ _).alloc (Nat.le_refl _) _).alloc (by simp) _

set_option maxRecDepth 100000 in
set_option maxHeartbeats 4000000 in
theorem wakes11_true (w : World) : Calls Try.prog 27 #[] w fun e w' => e = .returned (.bool true) ∧ Below w.heap.size w w' := by
  go_enter Try.func27, Try.ntmps27
  go_wp2_with fail
  refine (one_any _).mono ?_
  rintro e w1 ⟨⟨g1, rfl, hb1, hg1⟩, hB1⟩
  have hz1 := hb1.lt
  have hb1 := hide hb1
  have hB1 := hide hB1
  go_wp2_with fail
  refine (one_any _).mono ?_
  rintro e w2 ⟨⟨g2, rfl, hb2, hg2⟩, hB2⟩
  replace hb1 := hide (hb1.out.below hB2 hb1.out.lt)
  replace hB1 := hide (hB1.out.trans (hB2.mono hB1.out.size))
  have hn12 : g1 < g2 := Nat.lt_of_lt_of_le hz1 hg2
  have hz2 := hb2.lt
  have hb2 := hide hb2
  go_wp2_with fail
  refine (one_any _).mono ?_
  rintro e w3 ⟨⟨g3, rfl, hb3, hg3⟩, hB3⟩
  replace hb1 := hide (hb1.out.below hB3 hb1.out.lt)
  replace hb2 := hide (hb2.out.below hB3 hb2.out.lt)
  replace hB1 := hide (hB1.out.trans (hB3.mono hB1.out.size))
  replace hz1 := hb1.out.lt
  have hz3 := hb3.lt
  have hn23 : g2 < g3 := Nat.lt_of_lt_of_le hz2 hg3
  replace hz2 := hb2.out.lt
  have hb3 := hide hb3
  clear hB3 hB2
  go_upto_region 2 with (fail)
  obtain ⟨W, hW⟩ : ∃ W, ((w3.alloc (.cells #[.slice (some ⟨g1, 0, none⟩) 1 1, .int .i64 5] 24)).alloc (.cells #[.slice (some ⟨g2, 0, none⟩) 1 1, .int .i64 5] 24)).alloc (.cells #[.slice (some ⟨g3, 0, none⟩) 1 1, .int .i64 5] 24) = W := ⟨_, rfl⟩
  rw [hW]
  have p1 : Blk W w3.heap.size 24 #[.slice (some ⟨g1, 0, none⟩) 1 1, .int .i64 5] := by rw [← hW]; exact ((Blk.new_ rfl _ _).alloc _).alloc _
  have p2 : Blk W (w3.heap.size + 1) 24 #[.slice (some ⟨g2, 0, none⟩) 1 1, .int .i64 5] := by rw [← hW]; exact (Blk.new_ (by simp) _ _).alloc _
  have p3 : Blk W (w3.heap.size + 1 + 1) 24 #[.slice (some ⟨g3, 0, none⟩) 1 1, .int .i64 5] := by rw [← hW]; exact Blk.new_ (by simp) _ _
  have r1 : Blk W g1 30 #[.bool false, .int .i64 0, .int .i64 1, .int .i64 1, .bool false, .slice none 0 0] := by rw [← hW]; exact ((hb1.out.alloc _).alloc _).alloc _
  have r2 : Blk W g2 30 #[.bool false, .int .i64 0, .int .i64 1, .int .i64 1, .bool false, .slice none 0 0] := by rw [← hW]; exact ((hb2.out.alloc _).alloc _).alloc _
  have r3 : Blk W g3 30 #[.bool false, .int .i64 0, .int .i64 1, .int .i64 1, .bool false, .slice none 0 0] := by rw [← hW]; exact ((hb3.out.alloc _).alloc _).alloc _
  have hG : w.heap.size ≤ w3.heap.size := hB1.out.size
  have hBW : Below w.heap.size w W := by rw [← hW]; exact ((hB1.out.alloc hG _).alloc (by simp; omega) _).alloc (by simp; omega) _
  clear hW hb1 hb2 hb3 hB1
  generalize w3.heap.size = b at *
  have c2 := p2.cell 0
  have q2 := r2.cell 0
  have f2 := r2.frozen 0
  simp at c2 q2
  have p1 := hide p1
  have p2 := hide p2
  have p3 := hide p3
  have r1 := hide r1
  have r2 := hide r2
  have r3 := hide r3
  have hBW := hide hBW
  go_upto_region 3 with (fail)
  obtain ⟨V, hV⟩ : ∃ V, W.setCell ⟨g2, 0, none⟩ (.bool true) = V := ⟨_, rfl⟩
  rw [hV]
  replace p1 : Blk V b 24 #[.slice (some ⟨g1, 0, none⟩) 1 1, .int .i64 5] := by rw [← hV]; exact p1.out.far (p := ⟨g2, 0, none⟩) (by simp; omega) _
  replace p2 : Blk V (b + 1) 24 #[.slice (some ⟨g2, 0, none⟩) 1 1, .int .i64 5] := by rw [← hV]; exact p2.out.far (p := ⟨g2, 0, none⟩) (by simp; omega) _
  replace p3 : Blk V (b + 1 + 1) 24 #[.slice (some ⟨g3, 0, none⟩) 1 1, .int .i64 5] := by rw [← hV]; exact p3.out.far (p := ⟨g2, 0, none⟩) (by simp; omega) _
  replace r1 : Blk V g1 30 #[.bool false, .int .i64 0, .int .i64 1, .int .i64 1, .bool false, .slice none 0 0] := by rw [← hV]; exact r1.out.far (p := ⟨g2, 0, none⟩) (by simp; omega) _
  replace r2 : Blk V g2 30 #[.bool true, .int .i64 0, .int .i64 1, .int .i64 1, .bool false, .slice none 0 0] := by rw [← hV]; exact r2.out.set_ 0 _
  replace r3 : Blk V g3 30 #[.bool false, .int .i64 0, .int .i64 1, .int .i64 1, .bool false, .slice none 0 0] := by rw [← hV]; exact r3.out.far (p := ⟨g2, 0, none⟩) (by simp; omega) _
  replace hBW : Below w.heap.size w V := by rw [← hV]; exact hBW.out.setCell (p := ⟨g2, 0, none⟩) (by simp; omega) _
  clear hV c2 q2 f2
  have own3 : OwR V w.heap.size (.slice (some ⟨g3, 0, none⟩) 1 1) [(⟨false, 0, 1, 1, false, []⟩, .slice none 0 0)] := own_of_blk r3 (by omega) rfl (by decide)
  have c3 := p3.cell 0
  have f3 := p3.frozen 0
  simp at c3
  have hlt := p3.lt
  have hzV := hBW.size
  have p1 := hide p1
  have p2 := hide p2
  have p3 := hide p3
  have r1 := hide r1
  have r2 := hide r2
  have hBW := hide hBW
  have own3 := hide own3
  clear r3
  go_upto_region 4 with (at_builtin; refine app_sp (x := (⟨true, 0, 1, 1, false, [⟨3, ⟨2, 0, 2, 0⟩, ⟨0, 0, 0, 0⟩⟩]⟩, .slice (some ⟨V.heap.size, 0, none⟩) 1 1)) (g := V.heap.size + 1) (.tmp 24) (.tmp 29) rfl rfl rfl rfl (own_alloc (own_alloc own3.out)) (Blk.new_ (by simp) _ _) rfl (by simp) (by simp; omega) ?_; intro v4 w4 hown4 hg4 hat4; obtain ⟨A4, k4, hv4⟩ := own_form hown4; subst hv4; have hk4 := hide ((((p3.out.alloc _).alloc _).grown hg4 (p3.out.ne_own own3.out (by decide)))); have c4 := hk4.out.cell 0; have f4 := hk4.out.frozen 0; have ho4 := hide hown4; have hg4 := hide hg4; clear hown4 hat4)
  obtain ⟨X, hX⟩ : ∃ X, w4.setCell ⟨b + 1 + 1, 0, none⟩ (.slice A4 2 k4) = X := ⟨_, rfl⟩
  rw [hX]
  have p1x : Blk X b 24 #[.slice (some ⟨g1, 0, none⟩) 1 1, .int .i64 5] := by rw [← hX]; exact (((p1.out.alloc _).alloc _).grown hg4.out (p1.out.ne_own own3.out (by decide))).far (p := ⟨b + 1 + 1, 0, none⟩) (by simp; omega) _
  have p2x : Blk X (b + 1) 24 #[.slice (some ⟨g2, 0, none⟩) 1 1, .int .i64 5] := by rw [← hX]; exact (((p2.out.alloc _).alloc _).grown hg4.out (p2.out.ne_own own3.out (by decide))).far (p := ⟨b + 1 + 1, 0, none⟩) (by simp) _
  have p3x : Blk X (b + 1 + 1) 24 #[.slice A4 2 k4, .int .i64 5] := by rw [← hX]; exact hk4.out.set_ 0 _
  have r1x : Blk X g1 30 #[.bool false, .int .i64 0, .int .i64 1, .int .i64 1, .bool false, .slice none 0 0] := by rw [← hX]; exact (((r1.out.alloc _).alloc _).grown hg4.out (some_ne (b := g3) (by omega))).far (p := ⟨b + 1 + 1, 0, none⟩) (by simp; omega) _
  have r2x : Blk X g2 30 #[.bool true, .int .i64 0, .int .i64 1, .int .i64 1, .bool false, .slice none 0 0] := by rw [← hX]; exact (((r2.out.alloc _).alloc _).grown hg4.out (some_ne (b := g3) (by omega))).far (p := ⟨b + 1 + 1, 0, none⟩) (by simp; omega) _
  have cmx : Blk X V.heap.size 36 #[.int .u8 3, .int .u8 2, .int .i64 0, .int .i64 2, .int .i64 0, .int .u8 0, .int .i64 0, .int .i64 0, .int .i64 0] := by rw [← hX]; exact (((Blk.new _ 36 _).alloc _).grown hg4.out (some_ne (b := g3) (by omega))).far (p := ⟨b + 1 + 1, 0, none⟩) (by simp; omega) _
  have ownx : OwR X w.heap.size (.slice A4 2 k4) [(⟨false, 0, 1, 1, false, []⟩, .slice none 0 0), (⟨true, 0, 1, 1, false, [⟨3, ⟨2, 0, 2, 0⟩, ⟨0, 0, 0, 0⟩⟩]⟩, .slice (some ⟨V.heap.size, 0, none⟩) 1 1)] := by rw [← hX]; exact own_set ho4.out (hk4.out.ne_own ho4.out (by decide)) _
  have hBX : Below w.heap.size w X := by rw [← hX]; exact (((hBW.out.alloc hzV _).alloc (by simp; omega) _).grown hg4.out (by simp; omega) (fun k hk => by have : g3 = k := Option.some.inj hk; omega)).setCell (p := ⟨b + 1 + 1, 0, none⟩) (by simp; omega) _
  have rp : RdS X X.heap.size (.slice (some ⟨g1, 0, none⟩) 1 1) [⟨false, 0, 1, 1, false, []⟩] := rd_of_row (ps := [(⟨false, 0, 1, 1, false, []⟩, .slice none 0 0)]) (base := 0) (own_of_blk r1x (Nat.zero_le _) rfl (by decide)) (by simpa using rdc_nil X)
  have rq : RdS X X.heap.size (.slice (some ⟨g2, 0, none⟩) 1 1) [⟨true, 0, 1, 1, false, []⟩] := rd_of_row (ps := [(⟨true, 0, 1, 1, false, []⟩, .slice none 0 0)]) (base := 0) (own_of_blk r2x (Nat.zero_le _) rfl (by decide)) (by simpa using rdc_nil X)
  have rm : RdS X X.heap.size (.slice A4 2 k4) [⟨false, 0, 1, 1, false, []⟩, ⟨true, 0, 1, 1, false, [⟨3, ⟨2, 0, 2, 0⟩, ⟨0, 0, 0, 0⟩⟩]⟩] := rd_of_row ownx (by
    intro x hx
    simp only [List.mem_cons, List.not_mem_nil, or_false] at hx
    rcases hx with rfl | rfl
    · exact rdc_nil X
    · exact rdc_blk cmx rfl (by simp) (by simp))
  clear hX hk4 ho4 hg4 own3 p1 p2 p3 r1 r2 hBW c4 f4 c3 f3 r1x r2x cmx ownx hz1 hz2 hz3 hn12 hn23 hlt hzV
  have l1 := p1x.lt
  have l2 := p2x.lt
  have l3 := p3x.lt
  have e10 := p1x.cell 0
  have e11 := p1x.cell 1
  have e20 := p2x.cell 0
  have e21 := p2x.cell 1
  have e30 := p3x.cell 0
  have e31 := p3x.cell 1
  simp at e10 e11 e20 e21 e30 e31
  clear p1x p2x p3x
  have h1 := hide fun w1 (hb : Below X.heap.size X w1) => check_any [⟨false, 0, 1, 1, false, []⟩] 5 _ w1 (rp.below hb hb.size)
  have h2 := hide fun w1 (hb : Below X.heap.size X w1) => check_any [⟨true, 0, 1, 1, false, []⟩] 5 _ w1 (rq.below hb hb.size)
  have h3 := hide fun w1 (hb : Below X.heap.size X w1) => check_any [⟨false, 0, 1, 1, false, []⟩, ⟨true, 0, 1, 1, false, [⟨3, ⟨2, 0, 2, 0⟩, ⟨0, 0, 0, 0⟩⟩]⟩] 5 _ w1 (rm.below hb hb.size)
  have h4 := hide fun w1 => check_any [] 0 _ w1 (rds_nil w1)
  have h5 := hide fun w1 (hb : Below X.heap.size X w1) => cright_any [⟨false, 0, 1, 1, false, []⟩] 5 _ w1 (rp.below hb hb.size)
  have h6 := hide fun w1 (hb : Below X.heap.size X w1) => cright_any [⟨false, 0, 1, 1, false, []⟩, ⟨true, 0, 1, 1, false, [⟨3, ⟨2, 0, 2, 0⟩, ⟨0, 0, 0, 0⟩⟩]⟩] 5 _ w1 (rm.below hb hb.size)
  have h7 := hide fun w1 (hb : Below X.heap.size X w1) => tail_any [⟨false, 0, 1, 1, false, []⟩, ⟨true, 0, 1, 1, false, [⟨3, ⟨2, 0, 2, 0⟩, ⟨0, 0, 0, 0⟩⟩]⟩] 5 _ w1 (rm.below hb hb.size)
  have h8 := hide fun w1 (hb : Below X.heap.size X w1) => tail_any [⟨false, 0, 1, 1, false, []⟩] 5 _ w1 (rp.below hb hb.size)
  have h9 := hide fun w1 (hb : Below X.heap.size X w1) => head_any [⟨false, 0, 1, 1, false, []⟩, ⟨true, 0, 1, 1, false, [⟨3, ⟨2, 0, 2, 0⟩, ⟨0, 0, 0, 0⟩⟩]⟩] 5 1 _ w1 (rm.below hb hb.size)
  have h10 := hide fun w1 (hb : Below X.heap.size X w1) => head_any [⟨false, 0, 1, 1, false, []⟩, ⟨true, 0, 1, 1, false, [⟨3, ⟨2, 0, 2, 0⟩, ⟨0, 0, 0, 0⟩⟩]⟩] 5 0 _ w1 (rm.below hb hb.size)
  have h11 := hide fun w1 (hb : Below X.heap.size X w1) => head_any [⟨false, 0, 1, 1, false, []⟩, ⟨true, 0, 1, 1, false, [⟨3, ⟨2, 0, 2, 0⟩, ⟨0, 0, 0, 0⟩⟩]⟩] 5 2 _ w1 (rm.below hb hb.size)
  rw [show checkF [⟨false, 0, 1, 1, false, []⟩] 5 = (0, 0, 0) by decide] at h1
  rw [show checkF [⟨true, 0, 1, 1, false, []⟩] 5 = (2, 0, 110) by decide] at h2
  rw [show checkF [⟨false, 0, 1, 1, false, []⟩, ⟨true, 0, 1, 1, false, [⟨3, ⟨2, 0, 2, 0⟩, ⟨0, 0, 0, 0⟩⟩]⟩] 5 = (7, 1, 110) by decide] at h3
  rw [show checkF [] 0 = (0, 0, 2) by decide] at h4
  rw [show mayB [⟨false, 0, 1, 1, false, []⟩] 5 = true by decide] at h5
  rw [show mayB [⟨false, 0, 1, 1, false, []⟩, ⟨true, 0, 1, 1, false, [⟨3, ⟨2, 0, 2, 0⟩, ⟨0, 0, 0, 0⟩⟩]⟩] 5 = false by decide] at h6
  rw [show tailF [⟨false, 0, 1, 1, false, []⟩, ⟨true, 0, 1, 1, false, [⟨3, ⟨2, 0, 2, 0⟩, ⟨0, 0, 0, 0⟩⟩]⟩] = 1 by decide] at h7
  rw [show tailF [⟨false, 0, 1, 1, false, []⟩] = 0 by decide] at h8
  rw [show headF [⟨false, 0, 1, 1, false, []⟩, ⟨true, 0, 1, 1, false, [⟨3, ⟨2, 0, 2, 0⟩, ⟨0, 0, 0, 0⟩⟩]⟩] 1 = 0 by decide] at h9
  rw [show headF [⟨false, 0, 1, 1, false, []⟩, ⟨true, 0, 1, 1, false, [⟨3, ⟨2, 0, 2, 0⟩, ⟨0, 0, 0, 0⟩⟩]⟩] 0 = -1 by decide] at h10
  rw [show headF [⟨false, 0, 1, 1, false, []⟩, ⟨true, 0, 1, 1, false, [⟨3, ⟨2, 0, 2, 0⟩, ⟨0, 0, 0, 0⟩⟩]⟩] 2 = -1 by decide] at h11
  clear rp rq rm
  have hBX := hide hBX
  have hXc := hide (Below.refl X.heap.size X)
  go_wp2_with (first
    | (go_at_call 28; (with_reducible refine (stayf (G := X.heap.size) (h1.out _ hXc.out) hXc.out.size).mono ?_); rintro e w5 ⟨rfl, hc5, hf5, hz5, hB5⟩; replace hXc := hide (hXc.out.trans hB5.out))
    | (go_at_call 28; (with_reducible refine (stayf (G := X.heap.size) (h2.out _ hXc.out) hXc.out.size).mono ?_); rintro e w5 ⟨rfl, hc5, hf5, hz5, hB5⟩; replace hXc := hide (hXc.out.trans hB5.out))
    | (go_at_call 28; (with_reducible refine (stayf (G := X.heap.size) (h3.out _ hXc.out) hXc.out.size).mono ?_); rintro e w5 ⟨rfl, hc5, hf5, hz5, hB5⟩; replace hXc := hide (hXc.out.trans hB5.out))
    | (go_at_call 28; (with_reducible refine (stayf (G := X.heap.size) (h4.out _) hXc.out.size).mono ?_); rintro e w5 ⟨rfl, hc5, hf5, hz5, hB5⟩; replace hXc := hide (hXc.out.trans hB5.out))
    | (go_at_call 30; (with_reducible refine (stayf (G := X.heap.size) (h5.out _ hXc.out) hXc.out.size).mono ?_); rintro e w5 ⟨rfl, hc5, hf5, hz5, hB5⟩; replace hXc := hide (hXc.out.trans hB5.out))
    | (go_at_call 30; (with_reducible refine (stayf (G := X.heap.size) (h6.out _ hXc.out) hXc.out.size).mono ?_); rintro e w5 ⟨rfl, hc5, hf5, hz5, hB5⟩; replace hXc := hide (hXc.out.trans hB5.out))
    | (go_at_call 32; (with_reducible refine (stayf (G := X.heap.size) (h7.out _ hXc.out) hXc.out.size).mono ?_); rintro e w5 ⟨rfl, hc5, hf5, hz5, hB5⟩; replace hXc := hide (hXc.out.trans hB5.out))
    | (go_at_call 32; (with_reducible refine (stayf (G := X.heap.size) (h8.out _ hXc.out) hXc.out.size).mono ?_); rintro e w5 ⟨rfl, hc5, hf5, hz5, hB5⟩; replace hXc := hide (hXc.out.trans hB5.out))
    | (go_at_call 34; (with_reducible refine (stayf (G := X.heap.size) (h9.out _ hXc.out) hXc.out.size).mono ?_); rintro e w5 ⟨rfl, hc5, hf5, hz5, hB5⟩; replace hXc := hide (hXc.out.trans hB5.out))
    | (go_at_call 34; (with_reducible refine (stayf (G := X.heap.size) (h10.out _ hXc.out) hXc.out.size).mono ?_); rintro e w5 ⟨rfl, hc5, hf5, hz5, hB5⟩; replace hXc := hide (hXc.out.trans hB5.out))
    | (go_at_call 34; (with_reducible refine (stayf (G := X.heap.size) (h11.out _ hXc.out) hXc.out.size).mono ?_); rintro e w5 ⟨rfl, hc5, hf5, hz5, hB5⟩; replace hXc := hide (hXc.out.trans hB5.out)))
  go_ret
  exact ⟨rfl, hBX.out.trans (hXc.out.mono hBX.out.size)⟩
end Go.Proofs.Ytidddeobachjgaa
