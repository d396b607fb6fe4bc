/- The law NfaGuards: its walk. -/
import Derived.Test.YtmmbblfmhcegcaaGreatM27
namespace Go.Proofs.YtmmbblfmhcegcaaGreat
open Go.RowKit
attribute [local go_sem] relVal relEff dT grown_cell grown_frozen valF rowF

/-- The last positive one of the first k steps. -/
def lastTo (p : List Sp) (k : Nat) : Nat := ((positive (p.take k)).getLastD 0).toNat
theorem lastTo_all (p : List Sp) : lastTo p p.length = posLast p := by rw [lastTo, List.take_length, posLast]
theorem lastTo_succ {p : List Sp} {k : Nat} {s : Sp} (h : p[k]? = some s) : lastTo p (k + 1) = if s.neg then lastTo p k else k := by
  rw [lastTo, pos_snoc h]
  cases s.neg with
  | true => simp [lastTo]
  | false => simp

set_option maxRecDepth 100000 in
set_option maxHeartbeats 16000000 in
theorem nfaGuards_walk (p : List Sp) (win : Int) (v : Value) (w : World) (h : RdS w w.heap.size v p) :
    Calls Tryz.prog 4 #[ptV v win] w fun e w' => e = .returned (.bool true) ∧ Below w.heap.size w w' := by
  have hgr := hide fun w1 (hb : Below w.heap.size w w1) => great_any p win v w1 (h.below hb hb.size)
  cases hg : greatB p with
  | true =>
    rw [hg] at hgr
    obtain ⟨A, cap, rfl⟩ := h.len
    clear h hg
    go_enter Tryz.func4, Tryz.ntmps4
    have hX := hide ((Below.refl w.heap.size w).alloc (Nat.le_refl _) (.cells #[.slice A p.length cap, .int .i64 win] 24))
    go_wp2_with (first | (go_at_call 5; (with_reducible refine (stayf (G := w.heap.size + 1) (hgr.out _ hX.out) (by simp)).mono ?_); rintro e w1 ⟨rfl, hc1, hf1, hz1, hB1⟩) | (go_at_call 6; (with_reducible refine (wakes14_true _).mono ?_); rintro e w2 ⟨rfl, hB2⟩))
    go_ret
    exact ⟨rfl, (hX.out.trans (hB1.out.mono (by omega))).trans (hB2.mono (by omega))⟩
  | false =>
    rw [hg] at hgr
    obtain ⟨h40, hc20⟩ := great_no hg
    have hrr := hide fun w1 (hb : Below w.heap.size w w1) => rcright_any p win v w1 (h.below hb hb.size) (fun s hs => by have := hc20 s hs; omega)
    cases hm : mayB p win with
    | false =>
      rw [hm] at hrr
      obtain ⟨A, cap, rfl⟩ := h.len
      clear h hg hc20
      go_enter Tryz.func4, Tryz.ntmps4
      have hX := hide ((Below.refl w.heap.size w).alloc (Nat.le_refl _) (.cells #[.slice A p.length cap, .int .i64 win] 24))
      go_wp2_with (first
        | (go_at_call 5; (with_reducible refine (stayf (G := w.heap.size + 1) (hgr.out _ hX.out) (by simp)).mono ?_); rintro e w1 ⟨rfl, hc1, hf1, hz1, hB1⟩; have hX1 := hide (hX.out.trans (hB1.out.mono (by omega))))
        | (go_at_call 8; (with_reducible refine (stayf (G := w.heap.size + 1) (hrr.out _ hX1.out) hz1).mono ?_); rintro e w3 ⟨rfl, hc3, hf3, hz3, hB3⟩; have hX3 := hide (hX1.out.trans (hB3.out.mono (by omega))))
        | (go_at_call 6; (with_reducible refine (wakes14_true _).mono ?_); rintro e w5 ⟨rfl, hB5⟩))
      go_ret
      exact ⟨rfl, hX3.out.trans (hB5.mono hX3.out.size)⟩
    | true =>
      rw [hm] at hrr
      have hF := hide (may_plain hm).facts
      have hp6 := (may_plain hm).len
      have hnw := hide fun w1 (hb : Below w.heap.size w w1) => nnew_any p win v w1 (h.below hb hb.size) hm
      obtain ⟨A, cap, b, off, rfl, -, -, h4, h5⟩ := h
      replace hm := hide hm
      replace h5 := hide h5
      clear hg hc20
      generalize newL p = L at *
      generalize afterL p = Af at *
      go_enter Tryz.func4, Tryz.ntmps4
      have hX := hide ((Below.refl w.heap.size w).alloc (Nat.le_refl _) (.cells #[.slice A p.length cap, .int .i64 win] 24))
      have hsm := facts_small hF.out
      have hL9 := hF.out.len
      have hA9 := hF.out.alen
      go_upto_region 6 with (first
        | (go_at_call 5; (with_reducible refine (stayf (G := w.heap.size + 1) (hgr.out _ hX.out) (by simp)).mono ?_); rintro e w1 ⟨rfl, hc1, hf1, hz1, hB1⟩; have hX1 := hide (hX.out.trans (hB1.out.mono (by omega))); have x0 := hc1 w.heap.size 0 (by omega); have x1 := hc1 w.heap.size 1 (by omega); simp at x0 x1)
        | (go_at_call 8; (with_reducible refine (stayf (G := w.heap.size + 1) (hrr.out _ hX1.out) hz1).mono ?_); rintro e w3 ⟨rfl, hc3, hf3, hz3, hB3⟩; have hX3 := hide (hX1.out.trans (hB3.out.mono (by omega))); have z0 := (hc3 w.heap.size 0 (by omega)).trans x0; have z1 := (hc3 w.heap.size 1 (by omega)).trans x1)
        | (go_at_call 7; (with_reducible refine (hnw.out _ hX3.out).mono ?_); rintro e w2 ⟨⟨lv, av, rfl, hrt, hra⟩, hB2⟩; obtain ⟨Al, cl, hvl⟩ := hrt.len_form; obtain ⟨Aa, ca, hva⟩ := rd_form hra; subst hvl hva; have i2 : w.heap.size < w2.heap.size := Nat.lt_of_lt_of_le hz3 hB2.size; have y0 := (hB2.cell (p := ⟨w.heap.size, 0, none⟩) hz3).trans z0; have y1 := (hB2.cell (p := ⟨w.heap.size, 1, none⟩) hz3).trans z1; have hX2 := hide ((hX3.out.trans (hB2.mono hX3.out.size)).alloc (by have := hX3.out.size; have := hB2.size; omega) (.cells #[.slice Al L.length cl, .slice Aa Af.length ca, .int .i64 win] 30)); have hr14 := hide (rright14_any L (.slice Al L.length cl) (.slice Aa Af.length ca) win (w2.alloc (.cells #[.slice Al L.length cl, .slice Aa Af.length ca, .int .i64 win] 30)) (hrt.below ((Below.refl _ _).alloc (Nat.le_refl _) _) (by simp)) ⟨_, _, _, rfl⟩ hsm); rw [hF.out.auto] at hr14; replace hrt := hide hrt; replace hra := hide hra; replace hB2 := hide hB2)
        | (go_at_call 10; (with_reducible refine hr14.out.mono ?_); rintro e w4 ⟨rfl, hB4⟩))
      obtain ⟨ba, hba⟩ : ∃ ba, w2.heap.size = ba := ⟨_, rfl⟩
      have hbx2 : Blk (w2.alloc (.cells #[.slice Al L.length cl, .slice Aa Af.length ca, .int .i64 win] 30)) w2.heap.size 30 #[.slice Al L.length cl, .slice Aa Af.length ca, .int .i64 win] := Blk.new_ rfl _ _
      have hbx4 := hbx2.below hB4 hbx2.lt
      have hw24 : Below w2.heap.size w2 w4 := ((Below.refl w2.heap.size w2).alloc (Nat.le_refl _) _).trans (hB4.mono (by simp))
      have hrt4 := RdT.below hrt.out hw24 hw24.size
      have hra4 := RdI.below hra.out hw24 hw24.size
      have p0 := (hw24.cell (p := ⟨w.heap.size, 0, none⟩) i2).trans y0
      have e0 := hbx4.cell 0
      have e1 := hbx4.cell 1
      simp at e0 e1
      have l1 := hbx4.lt
      have l2 : w.heap.size < w4.heap.size := by have := hw24.size; omega
      rw [hba] at e0 e1 l1
      rw [hba]
      have hX4 := hide (hX2.out.trans (hB4.mono hX2.out.size))
      have hlw : w.heap.size ≤ w4.heap.size := by omega
      clear hgr hX hX1 hc1 hf1 hz1 hB1 x0 x1 hrt hra hB2 y0 y1 hX2 hX3 hrr hc3 hf3 hz3 hB3 z0 z1 hbx2 hnw hw24 hba i2 hbx4 hB4 hr14
      obtain ⟨A', cap', b', off', ev, -, -, g4, g5⟩ := hrt4
      injection ev with ev1 _ ev3
      subst ev1 ev3
      replace g5 := hide g5
      replace hra4 := hide hra4
      have hbw : 0 < p.length → b < w.heap.size := fun h => (h4 h).2
      have hAw : 0 < p.length → A = some ⟨b, off, none⟩ := fun h => (h4 h).1
      have hb4 : 0 < L.length → b' < w4.heap.size := fun h => (g4 h).2
      have hA4 : 0 < L.length → Al = some ⟨b', off', none⟩ := fun h => (g4 h).1
      clear h4 g4
      replace hAw := hide hAw
      replace hA4 := hide hA4
      go_wp2
      go_loopw [5, 6] (fun la i wr => ∃ k : Nat, k ≤ p.length ∧ i = .int .i64 k ∧ la = .int .i64 (lastTo p k) ∧ Below w4.heap.size w4 wr) (fun _ i _ => p.length - (intOf i).toNat)
      case atStart => exact ⟨0, by omega, rfl, rfl, Below.refl _ _⟩
      case round =>
        obtain ⟨k, hk, rfl, rfl, hB⟩ := hrel
        have hzr := hB.size
        have q0 := (hB.cell (p := ⟨w.heap.size, 0, none⟩) l2).trans p0
        have hwk : IntKind.i64.wrap ((k : Int) + 1) = (k : Int) + 1 := IntWalk.i64_in _ (by omega)
        by_cases hlt : k < p.length
        · obtain rfl := hAw.out (by omega)
          have hb := hbw (by omega)
          have hx := List.getElem?_eq_getElem hlt
          obtain ⟨cs, ⟨cv, rfl, -⟩, hat⟩ := h5.out k p[k] hx
          have c0 := (hat.below (hX4.out.trans (hB.mono hlw)) hb).c6.1
          have hls := hide (lastTo_succ hx)
          have hki : (k : Int) < p.length := by omega
          have hbr : b < wr.heap.size := by omega
          clear hat hx
          generalize p[k] = s at *
          obtain ⟨neg, kind, mn, mx, strict, cmps⟩ := s
          simp only at c0 hls
          cases neg with
          | true =>
            have hl2 := hide (show lastTo p (k + 1) = lastTo p k by rw [hls.out, if_pos rfl])
            clear hls
            go_wp2
            exact ⟨⟨k + 1, by omega, by simp, by rw [hl2.out], hB⟩, by simp [intOf]; omega⟩
          | false =>
            have hl2 := hide (show lastTo p (k + 1) = k by rw [hls.out, if_neg (by simp)])
            clear hls
            go_wp2
            exact ⟨⟨k + 1, by omega, by simp, by rw [hl2.out], hB⟩, by simp [intOf]; omega⟩
        · obtain rfl : k = p.length := by omega
          rw [lastTo_all]
          have hki : ¬ ((p.length : Int) < p.length) := by omega
          have hX5 := hide (hX4.out.trans (hB.mono hlw))
          have e0' := (hB.cell (p := ⟨ba, 0, none⟩) l1).trans e0
          have e1' := (hB.cell (p := ⟨ba, 1, none⟩) l1).trans e1
          have m1 : ba < wr.heap.size := by omega
          have m2 : w.heap.size < wr.heap.size := by omega
          have hB4r := hide hB
          have hra5 := hide (RdI.below hra4.out hB hzr)
          clear hB p0 e0 e1 hra4
          go_wp2
          obtain ⟨w5, rfl⟩ : ∃ w5 : World, w5 = wr := ⟨_, rfl⟩
          go_loopw [7] (fun i wr => ∃ k : Nat, k ≤ L.length ∧ i = .int .i64 k ∧ Below w5.heap.size w5 wr) (fun i _ => L.length - (intOf i).toNat)
          case atStart => exact ⟨0, by omega, rfl, Below.refl _ _⟩
          case round =>
            obtain ⟨i, hi, rfl, hB⟩ := hrel
            have hz5 := hB.size
            have d0 := (hB.cell (p := ⟨ba, 0, none⟩) m1).trans e0'
            have dp := (hB.cell (p := ⟨w.heap.size, 0, none⟩) m2).trans q0
            have hwi : IntKind.i64.wrap ((i : Int) + 1) = (i : Int) + 1 := IntWalk.i64_in _ (by omega)
            by_cases hlt2 : i < L.length
            · obtain rfl := hA4.out (by omega)
              have hb' := hb4 (by omega)
              obtain ⟨s, hs⟩ : ∃ s, L[i]? = some s := ⟨_, List.getElem?_eq_getElem hlt2⟩
              obtain ⟨cs, ⟨gv, rfl, hgv⟩, hat⟩ := g5.out i s hs
              obtain ⟨Ag, cg, hge⟩ := rd_form hgv
              subst hge
              have h4r : Below w4.heap.size w4 wr := hB4r.out.trans (hB.mono hB4r.out.size)
              obtain ⟨c0, c1, c2, c3, c4, c5⟩ := (hat.below h4r hb').c6
              obtain ⟨hs1, hs2, hs3, -, -, hs6⟩ := hF.out.steps i s hs
              have hstr := hF.out.strict i s hs
              have hgd0 := hide fun (k : Nat) (hk : k < p.length) => hF.out.guards i s k hs hk
              have hok := autoR_at hF.out.auto hs
              simp only [okAt, Bool.and_eq_true, decide_eq_true_eq] at hok
              obtain ⟨⟨⟨⟨hk1, hk2⟩, -⟩, -⟩, -⟩ := hok
              obtain ⟨st, pl, sr, gs, ad, la⟩ := s
              simp only at c0 c1 c2 c3 c4 c5 hs1 hs2 hs3 hs6 hstr hgd0 hk1 hk2 hgv
              obtain ⟨sn, rfl⟩ : ∃ n : Nat, st = n := ⟨st.toNat, by omega⟩
              have hsn : sn < p.length := by omega
              rw [Int.toNat_natCast] at hs3 hstr
              obtain rfl := hAw.out (by omega)
              have hb := hbw (by omega)
              have hxs := List.getElem?_eq_getElem hsn
              obtain ⟨csp, ⟨cvp, rfl, -⟩, hatp⟩ := h5.out sn p[sn] hxs
              rw [stepAt_eq hxs] at hs3 hstr
              have hpw : Below w.heap.size w wr := hX5.out.trans (hB.mono hX5.out.size)
              have n0 := (hatp.below hpw hb).c6.1
              have n4 := (hatp.below hpw hb).c6.2.2.2.2.1
              rw [hs3] at n0
              rw [← hstr] at n4
              have hii : (i : Int) < L.length := by omega
              have l3 : b' < wr.heap.size := by have := h4r.size; omega
              have l4 : b < wr.heap.size := by omega
              have l5 : w.heap.size < wr.heap.size := by omega
              have l6 : ba < wr.heap.size := by omega
              have hgvr := hide (RdI.below hgv h4r h4r.size)
              replace h4r := hide h4r
              replace hpw := hide hpw
              replace hs := hide hs
              clear hat hatp hs3 hstr hxs hgv
              go_upto_region 16 with (fail)
              have hbs := Blk.new wr 41 #[.int .i64 sn, .int .i64 pl, .bool sr, .slice Ag gs.length cg, .int .i64 ad, .bool la]
              have hBa : Below wr.heap.size wr (wr.alloc (.cells #[.int .i64 sn, .int .i64 pl, .bool sr, .slice Ag gs.length cg, .int .i64 ad, .bool la] 41)) := (Below.refl _ _).alloc (Nat.le_refl _) _
              obtain ⟨W6, hW6⟩ : ∃ W6, wr.alloc (.cells #[.int .i64 sn, .int .i64 pl, .bool sr, .slice Ag gs.length cg, .int .i64 ad, .bool la] 41) = W6 := ⟨_, rfl⟩
              rw [hW6] at hbs hBa
              rw [hW6]
              clear hW6 c0 c1 c2 c3 c4 c5
              obtain ⟨s0, s1, s2, s3, s4, s5⟩ := hbs.c6
              have u0 := (hBa.cell (p := ⟨ba, 0, none⟩) l6).trans d0
              have up := (hBa.cell (p := ⟨w.heap.size, 0, none⟩) l5).trans dp
              have un0 := (hBa.cell (p := ⟨b, off + sn * 6, none⟩) l4).trans n0
              have un4 := (hBa.cell (p := ⟨b, off + sn * 6 + 4, none⟩) l4).trans n4
              have hsi : (sn : Int) < p.length := by omega
              have hz6 := hBa.size
              have l3' : b' < W6.heap.size := by omega
              have l4' : b < W6.heap.size := by omega
              have l5' : w.heap.size < W6.heap.size := by omega
              have l6' : ba < W6.heap.size := by omega
              have l7' : wr.heap.size < W6.heap.size := hbs.lt
              clear d0 dp n0 n4 l3 l4 l5 l6
              go_quiet (fail)
              replace hBa := hide (jdrewN hBa nq)
              have h49 : Hid (Below w4.heap.size w4 (W6.drewN nq)) := hide (h4r.out.trans (hBa.out.mono h4r.out.size))
              have hw9 : Hid (Below w.heap.size w (W6.drewN nq)) := hide (hpw.out.trans (hBa.out.mono hpw.out.size))
              have hg9 : Hid (RdI (W6.drewN nq) (W6.drewN nq).heap.size (.slice Ag gs.length cg) gs) := hide (RdI.below hgvr.out hBa.out hBa.out.size)
              replace s0 : (W6.drewN nq).cell? ⟨wr.heap.size, 0, none⟩ = some (.int .i64 sn) := s0
              replace s3 : (W6.drewN nq).cell? ⟨wr.heap.size, 3, none⟩ = some (.slice Ag gs.length cg) := s3
              replace s4 : (W6.drewN nq).cell? ⟨wr.heap.size, 4, none⟩ = some (.int .i64 ad) := s4
              replace u0 : (W6.drewN nq).cell? ⟨ba, 0, none⟩ = some (.slice (some ⟨b', off', none⟩) L.length cl) := u0
              replace up : (W6.drewN nq).cell? ⟨w.heap.size, 0, none⟩ = some (.slice (some ⟨b, off, none⟩) p.length cap) := up
              replace l3' : b' < (W6.drewN nq).heap.size := l3'
              replace l4' : b < (W6.drewN nq).heap.size := l4'
              replace l5' : w.heap.size < (W6.drewN nq).heap.size := l5'
              replace l6' : ba < (W6.drewN nq).heap.size := l6'
              replace l7' : wr.heap.size < (W6.drewN nq).heap.size := l7'
              clear un0 un4 s1 s2 s5 hbs hgvr hz6
              generalize W6.drewN nq = w9 at *
              obtain ⟨bs, hbse⟩ : ∃ bs, wr.heap.size = bs := ⟨_, rfl⟩
              rw [hbse] at s0 s3 s4 l7'
              rw [hbse]
              have hz9 : wr.heap.size ≤ w9.heap.size := hBa.out.size
              replace hbse := hide hbse
              go_wp2
              go_loopw [9] (fun k wi => ∃ k' : Nat, k' ≤ p.length ∧ k = .int .i64 k' ∧ Below w9.heap.size w9 wi) (fun k _ => p.length - (intOf k).toNat)
              case atStart => exact ⟨0, by omega, rfl, Below.refl _ _⟩
              case round =>
                obtain ⟨k, hk, rfl, hBi⟩ := hrel
                have hzi := hBi.size
                have t0 := (hBi.cell (p := ⟨bs, 0, none⟩) l7').trans s0
                have t3 := (hBi.cell (p := ⟨bs, 3, none⟩) l7').trans s3
                have t4 := (hBi.cell (p := ⟨bs, 4, none⟩) l7').trans s4
                have v0 := (hBi.cell (p := ⟨ba, 0, none⟩) l6').trans u0
                have vp := (hBi.cell (p := ⟨w.heap.size, 0, none⟩) l5').trans up
                have hwk : IntKind.i64.wrap ((k : Int) + 1) = (k : Int) + 1 := IntWalk.i64_in _ (by omega)
                by_cases hlt3 : k < p.length
                · have hxk := List.getElem?_eq_getElem hlt3
                  obtain ⟨csk, ⟨cvk, rfl, -⟩, hatk⟩ := h5.out k p[k] hxk
                  have ck := (hatk.below (hw9.out.trans (hBi.mono hw9.out.size)) hb).c6.1
                  have hgd := hide (hgd0.out k hlt3)
                  rw [stepAt_eq hxk] at hgd
                  have hrdi := hide (RdI.below hg9.out hBi hzi)
                  have hkp : (k : Int) < p.length := by omega
                  clear hatk hxk
                  generalize p[k] = pk at *
                  obtain ⟨neg, kind, mn, mx, strict, cmps⟩ := pk
                  simp only at ck hgd
                  by_cases a1 : 0 ≤ ad
                  · obtain ⟨an, rfl⟩ : ∃ n : Nat, ad = n := ⟨ad.toNat, by omega⟩
                    have han : an < L.length := by omega
                    have hxa := List.getElem?_eq_getElem han
                    obtain ⟨csa, ⟨gva, rfl, -⟩, hata⟩ := g5.out an L[an] hxa
                    have ca0 := (hata.below (h49.out.trans (hBi.mono h49.out.size)) hb').c6.1
                    rw [show stepOf L (an : Int) = L[an].step by simp [stepOf, hxa]] at hgd
                    have hmax : max (an : Int) 0 = an := by omega
                    have hanl : (an : Int) < L.length := by omega
                    clear hata hxa
                    generalize L[an].step = ss at *
                    cases neg with
                    | false =>
                      have hamg := hide (among_any gs k (.slice Ag gs.length cg) _ hrdi.out)
                      rw [show decide ((k : Int) ∈ gs) = false by rw [hgd.out]; simp] at hamg
                      replace hgd := hide hgd
                      go_wp2_with (go_at_call 15; (with_reducible refine hamg.out.mono ?_); rintro e wj ⟨rfl, hBj⟩)
                      exact ⟨⟨k + 1, by omega, by simp, hBi.trans (hBj.mono hzi)⟩, by simp [intOf]; omega⟩
                    | true =>
                      by_cases a2 : ss < k
                      · by_cases a3 : (k : Int) < sn
                        · have a3' : k < sn := by omega
                          have hamg := hide (among_any gs k (.slice Ag gs.length cg) _ hrdi.out)
                          rw [show decide ((k : Int) ∈ gs) = true by rw [hgd.out]; simp [a2, a3']] at hamg
                          replace hgd := hide hgd
                          go_wp2_with (go_at_call 15; (with_reducible refine hamg.out.mono ?_); rintro e wj ⟨rfl, hBj⟩)
                          exact ⟨⟨k + 1, by omega, by simp, hBi.trans (hBj.mono hzi)⟩, by simp [intOf]; omega⟩
                        · have a3' : ¬ (k < sn) := by omega
                          have hamg := hide (among_any gs k (.slice Ag gs.length cg) _ hrdi.out)
                          rw [show decide ((k : Int) ∈ gs) = false by rw [hgd.out]; simp [a2, a3']] at hamg
                          replace hgd := hide hgd
                          go_wp2_with (go_at_call 15; (with_reducible refine hamg.out.mono ?_); rintro e wj ⟨rfl, hBj⟩)
                          exact ⟨⟨k + 1, by omega, by simp, hBi.trans (hBj.mono hzi)⟩, by simp [intOf]; omega⟩
                      · have a2' : (k : Int) ≤ ss := by omega
                        have hamg := hide (among_any gs k (.slice Ag gs.length cg) _ hrdi.out)
                        rw [show decide ((k : Int) ∈ gs) = false by rw [hgd.out]; simp [a2]] at hamg
                        replace hgd := hide hgd
                        go_wp2_with (go_at_call 15; (with_reducible refine hamg.out.mono ?_); rintro e wj ⟨rfl, hBj⟩)
                        exact ⟨⟨k + 1, by omega, by simp, hBi.trans (hBj.mono hzi)⟩, by simp [intOf]; omega⟩
                  · have a1' : ad < 0 := by omega
                    have hamg := hide (among_any gs k (.slice Ag gs.length cg) _ hrdi.out)
                    rw [show decide ((k : Int) ∈ gs) = false by rw [hgd.out]; simp [a1]] at hamg
                    replace hgd := hide hgd
                    go_wp2_with (go_at_call 15; (with_reducible refine hamg.out.mono ?_); rintro e wj ⟨rfl, hBj⟩)
                    exact ⟨⟨k + 1, by omega, by simp, hBi.trans (hBj.mono hzi)⟩, by simp [intOf]; omega⟩
                · obtain rfl : k = p.length := by omega
                  have hkp : ¬ ((p.length : Int) < p.length) := by omega
                  go_wp2
                  exact ⟨⟨i + 1, by omega, by simp, hB.trans ((hBa.out.trans (hBi.mono hz9)).mono hz5)⟩, by simp [intOf]; omega⟩
            · obtain rfl : i = L.length := by omega
              have hii : ¬ ((L.length : Int) < L.length) := by omega
              have d1 := (hB.cell (p := ⟨ba, 1, none⟩) m1).trans e1'
              have hX6 := hide (hX5.out.trans (hB.mono hX5.out.size))
              have hra6 := hide (RdI.below hra5.out hB hz5)
              have m3 : ba < wr.heap.size := by omega
              have m4 : w.heap.size < wr.heap.size := by omega
              have hlz : w.heap.size ≤ wr.heap.size := by omega
              clear hB hra5 e0' e1' q0
              go_wp2
              obtain ⟨w6, rfl⟩ : ∃ w6 : World, w6 = wr := ⟨_, rfl⟩
              go_loopw [11] (fun k wi => ∃ k' : Nat, k' ≤ p.length ∧ k = .int .i64 k' ∧ Below w6.heap.size w6 wi) (fun k _ => p.length - (intOf k).toNat)
              case atStart => exact ⟨0, by omega, rfl, Below.refl _ _⟩
              case round =>
                obtain ⟨k, hk, rfl, hBk⟩ := hrel
                have hzk := hBk.size
                have v1 := (hBk.cell (p := ⟨ba, 1, none⟩) m3).trans d1
                have vp := (hBk.cell (p := ⟨w.heap.size, 0, none⟩) m4).trans dp
                have hwk : IntKind.i64.wrap ((k : Int) + 1) = (k : Int) + 1 := IntWalk.i64_in _ (by omega)
                by_cases hlt3 : k < p.length
                · obtain rfl := hAw.out (by omega)
                  have hb := hbw (by omega)
                  have hxk := List.getElem?_eq_getElem hlt3
                  obtain ⟨csk, ⟨cvk, rfl, -⟩, hatk⟩ := h5.out k p[k] hxk
                  have ck := (hatk.below (hX6.out.trans (hBk.mono hlz)) hb).c6.1
                  have haf := hide (hF.out.after k hlt3)
                  rw [stepAt_eq hxk] at haf
                  have hrar := hide (RdI.below hra6.out hBk hzk)
                  have hkp : (k : Int) < p.length := by omega
                  have l3 : b < wr.heap.size := by omega
                  have l4 : w.heap.size < wr.heap.size := by omega
                  have l5 : ba < wr.heap.size := by omega
                  clear hatk hxk
                  generalize p[k] = pk at *
                  obtain ⟨neg, kind, mn, mx, strict, cmps⟩ := pk
                  simp only at ck haf
                  generalize posLast p = lp at *
                  cases neg with
                  | false =>
                    have hamg := hide fun w1 (hb : Below wr.heap.size wr w1) => among_any Af k (.slice Aa Af.length ca) w1 (RdI.below hrar.out hb hb.size)
                    rw [show decide ((k : Int) ∈ Af) = false by rw [haf.out]; simp] at hamg
                    replace haf := hide haf
                    go_upto_region 27 with (fail)
                    refine wp_region_tab wr.heap.size (Nat.le_refl _) [(3, valF (.bool false))] [] (by kernel_rfl) (by kernel_rfl) (one_ok (valF_ok _)) ?_
                    repeat (refine wpRel_one rfl (fun K hK => ?_); go_simp; refine hK _ _ ?_; clear hK K)
                    refine wpTab_eff (valF (.bool false)) rfl (fun K hK => ?_)
                    go_simp
                    refine ⟨fun n => tab_val (Nat.le_refl _) (fun w1 hb hz => hamg.out w1 hb), ?_⟩
                    refine hK _ _ ?_
                    clear hK K
                    repeat (refine wpRel_one rfl (fun K hK => ?_); go_simp; refine hK _ _ ?_; clear hK K)
                    refine wpRel_nil ?_
                    rintro w7 ⟨n7, rfl⟩ hΓ
                    clear hΓ
                    have hB7 := grown_below wr.heap.size wr n7
                    generalize grown wr.heap.size wr n7 = w7 at *
                    go_wp2
                    exact ⟨⟨k + 1, by omega, by simp, hBk.trans (hB7.mono hzk)⟩, by simp [intOf]; omega⟩
                  | true =>
                    by_cases a2 : lp < k
                    · have a2' : (lp : Int) < k := by omega
                      have hamg := hide fun w1 (hb : Below wr.heap.size wr w1) => among_any Af k (.slice Aa Af.length ca) w1 (RdI.below hrar.out hb hb.size)
                      rw [show decide ((k : Int) ∈ Af) = true by rw [haf.out]; simp [a2]] at hamg
                      replace haf := hide haf
                      go_upto_region 27 with (fail)
                      refine wp_region_tab wr.heap.size (Nat.le_refl _) [(3, valF (.bool true))] [] (by kernel_rfl) (by kernel_rfl) (one_ok (valF_ok _)) ?_
                      repeat (refine wpRel_one rfl (fun K hK => ?_); go_simp; refine hK _ _ ?_; clear hK K)
                      refine wpTab_eff (valF (.bool true)) rfl (fun K hK => ?_)
                      go_simp
                      refine ⟨fun n => tab_val (Nat.le_refl _) (fun w1 hb hz => hamg.out w1 hb), ?_⟩
                      refine hK _ _ ?_
                      clear hK K
                      repeat (refine wpRel_one rfl (fun K hK => ?_); go_simp; refine hK _ _ ?_; clear hK K)
                      refine wpRel_nil ?_
                      rintro w7 ⟨n7, rfl⟩ hΓ
                      clear hΓ
                      have hB7 := grown_below wr.heap.size wr n7
                      generalize grown wr.heap.size wr n7 = w7 at *
                      go_wp2
                      exact ⟨⟨k + 1, by omega, by simp, hBk.trans (hB7.mono hzk)⟩, by simp [intOf]; omega⟩
                    · have a2' : (k : Int) ≤ lp := by omega
                      have hamg := hide fun w1 (hb : Below wr.heap.size wr w1) => among_any Af k (.slice Aa Af.length ca) w1 (RdI.below hrar.out hb hb.size)
                      rw [show decide ((k : Int) ∈ Af) = false by rw [haf.out]; simp [a2]] at hamg
                      replace haf := hide haf
                      go_upto_region 27 with (fail)
                      refine wp_region_tab wr.heap.size (Nat.le_refl _) [(3, valF (.bool false))] [] (by kernel_rfl) (by kernel_rfl) (one_ok (valF_ok _)) ?_
                      repeat (refine wpRel_one rfl (fun K hK => ?_); go_simp; refine hK _ _ ?_; clear hK K)
                      refine wpTab_eff (valF (.bool false)) rfl (fun K hK => ?_)
                      go_simp
                      refine ⟨fun n => tab_val (Nat.le_refl _) (fun w1 hb hz => hamg.out w1 hb), ?_⟩
                      refine hK _ _ ?_
                      clear hK K
                      repeat (refine wpRel_one rfl (fun K hK => ?_); go_simp; refine hK _ _ ?_; clear hK K)
                      refine wpRel_nil ?_
                      rintro w7 ⟨n7, rfl⟩ hΓ
                      clear hΓ
                      have hB7 := grown_below wr.heap.size wr n7
                      generalize grown wr.heap.size wr n7 = w7 at *
                      go_wp2
                      exact ⟨⟨k + 1, by omega, by simp, hBk.trans (hB7.mono hzk)⟩, by simp [intOf]; omega⟩
                · obtain rfl : k = p.length := by omega
                  have hkp : ¬ ((p.length : Int) < p.length) := by omega
                  have hX7 := hide (hX6.out.trans (hBk.mono hlz))
                  go_wp2_with (go_at_call 6; (with_reducible refine (wakes14_true _).mono ?_); rintro e w9 ⟨rfl, hB9⟩)
                  go_ret
                  exact ⟨rfl, hX7.out.trans (hB9.mono hX7.out.size)⟩
end Go.Proofs.YtmmbblfmhcegcaaGreat
