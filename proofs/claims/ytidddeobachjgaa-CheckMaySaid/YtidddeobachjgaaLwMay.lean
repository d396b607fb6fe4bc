/- The law CheckMay: its walk. -/
import Derived.Test.YtidddeobachjgaaWkC
import Derived.Test.YtidddeobachjgaaPlV
import Derived.Test.YtidddeobachjgaaTrF
import Derived.Test.YtidddeobachjgaaRaB
import Derived.Deep.CutRange
namespace Go.Proofs.Ytidddeobachjgaa
open Go.RowKit
attribute [local go_sem] relVal relEff dTwo grown_cell grown_frozen

set_option maxRecDepth 100000 in
set_option maxHeartbeats 8000000 in
theorem checkMay_walk (p : List Sp) (win : Int) (v : Value) (w : World) (h : RdS w w.heap.size v p) :
    Calls Try.prog 8 #[ptV v win] w fun e w' => e = .returned (.bool true) ∧ Below w.heap.size w w' := by
  have hgr := hide fun w1 (hb : Below w.heap.size w w1) => great11_any p win v w1 (h.below hb hb.size)
  have hmy := hide fun w1 (hb : Below w.heap.size w w1) => cright_any p win v w1 (h.below hb hb.size)
  have hrr := hide fun w1 (hb : Below w.heap.size w w1) => rright_any p win v w1 (h.below hb hb.size)
  have hsz := RdL.lenle h
  cases hg : greatB p with
  | true =>
    rw [hg] at hgr
    obtain ⟨A, cap, rfl⟩ := h.len
    clear h hmy hrr hg
    go_enter Try.func8, Try.ntmps8
    have hX := hide ((Below.refl w.heap.size w).alloc (Nat.le_refl _) (.cells #[.slice A p.length cap, .int .i64 win] 24))
    go_wp2_with (first | (go_at_call 26; (with_reducible refine (stayf (G := w.heap.size + 1) (hgr.out _ hX.out) (by simp)).mono ?_); rintro e w1 ⟨rfl, hc1, hf1, hz1, hB1⟩) | (go_at_call 27; (with_reducible refine (wakes11_true _).mono ?_); rintro e w2 ⟨rfl, hB2⟩))
    go_ret
    exact ⟨rfl, (hX.out.trans (hB1.out.mono (by omega))).trans (hB2.mono (by omega))⟩
  | false =>
    rw [hg] at hgr
    clear hg
    cases hm : mayB p win with
    | false =>
      rw [hm] at hmy
      obtain ⟨A, cap, rfl⟩ := h.len
      clear h hrr hm
      go_enter Try.func8, Try.ntmps8
      have hX := hide ((Below.refl w.heap.size w).alloc (Nat.le_refl _) (.cells #[.slice A p.length cap, .int .i64 win] 24))
      go_wp2_with (first | (go_at_call 26; (with_reducible refine (stayf (G := w.heap.size + 1) (hgr.out _ hX.out) (by simp)).mono ?_); rintro e1 w1 ⟨rfl, hc1, hf1, hz1, hB1⟩; have hX1 := hide (hX.out.trans (hB1.out.mono (by omega)))) | (go_at_call 30; (with_reducible refine (stayf (G := w.heap.size + 1) (hmy.out _ hX1.out) hz1).mono ?_); rintro e1 w2 ⟨rfl, hc2, hf2', hz2, hB2⟩; have hX2 := hide (hX1.out.trans (hB2.out.mono (by omega)))) | (go_at_call 27; (with_reducible refine (wakes11_true _).mono ?_); rintro e1 w4 ⟨rfl, hB4⟩))
      go_ret
      exact ⟨rfl, hX2.out.trans (hB4.mono hX2.out.size)⟩
    | true =>
      rw [hm] at hmy
      obtain ⟨hpos, h6, w0, w1, hst0, hl4⟩ := may_whole hm
      have hstep := hide fun k s (hs : p[k]? = some s) => may_step hm hs
      have hmx : ∀ s ∈ p, 1 ≤ s.max := fun s hs => by
        obtain ⟨k, hk, rfl⟩ := List.mem_iff_getElem.1 hs
        have := hstep.out k p[k] (List.getElem?_eq_getElem hk)
        have h1 := this.m1
        have h2 := this.m2
        omega
      have hr := (may_rules hm).1
      rw [hr] at hrr
      have hx0 := List.getElem?_eq_getElem hpos
      obtain ⟨n0, n1⟩ := hst0 _ hx0
      have hlo := hide fun k => (long_pos hmx).1 k
      have hl1 := (long_pos hmx).2 _ hx0 n0
      have hhi := hide fun k => long_mono hmx k
      have hlsn := hide fun k s (hs : p[k]? = some s) => long_snoc hs
      replace hst0 := hide hst0
      clear hm hmx hr
      obtain ⟨A, cap, b, off, rfl, h2, h3, h4, h5⟩ := h
      obtain ⟨rfl, hb⟩ := h4 hpos
      clear h4
      have hcell : ∀ (j : Nat) (s : Sp), p[j]? = some s → ∃ cv, RdC w w.heap.size cv s.cmps ∧ At w b (off + j * 6) [.bool s.neg, .int .i64 s.kind, .int .i64 s.min, .int .i64 s.max, .bool s.strict, cv] := by
        intro j s hs
        obtain ⟨cs, ⟨cv, rfl, hr⟩, hat⟩ := h5 j s hs
        exact ⟨cv, hr, hat⟩
      replace hcell := hide hcell
      clear h5
      obtain ⟨cv0, hrc0, hat0⟩ := hcell.out 0 p[0] hx0
      obtain ⟨c0, c1, c2, c3, c4, c5⟩ := hat0.c6
      simp only [Nat.zero_mul, Nat.add_zero] at c0 c1 c2 c3 c4 c5
      rw [n0] at c0
      rw [n1] at c4
      clear hrc0 hat0 hx0 n0 n1 c1 c2 c3 c5
      have hpos' : (0 : Int) < p.length := by omega
      have h6' : (p.length : Int) ≤ 6 := by omega
      go_enter Try.func8, Try.ntmps8
      have hX := hide ((Below.refl w.heap.size w).alloc (Nat.le_refl _) (.cells #[.slice (some ⟨b, off, none⟩) p.length cap, .int .i64 win] 24))
      go_wp2_with (first | (go_at_call 26; (with_reducible refine (stayf (G := w.heap.size + 1) (hgr.out _ hX.out) (by simp)).mono ?_); rintro e1 w1 ⟨rfl, hc1, hf1, hz1, hB1⟩; have hX1 := hide (hX.out.trans (hB1.out.mono (by omega)))) | (go_at_call 30; (with_reducible refine (stayf (G := w.heap.size + 1) (hmy.out _ hX1.out) hz1).mono ?_); rintro e1 w2 ⟨rfl, hc2, hf2', hz2, hB2⟩; have hX2 := hide (hX1.out.trans (hB2.out.mono (by omega)))) | (go_at_call 13; (with_reducible refine (stayf (G := w.heap.size + 1) (hrr.out _ hX2.out) hz2).mono ?_); rintro e1 w3 ⟨rfl, hc3, hf3, hz3, hB3⟩; have hX3 := hide (hX2.out.trans (hB3.out.mono (by omega)))) | (go_at_call 27; (with_reducible refine (wakes11_true _).mono ?_); rintro e1 w4 ⟨rfl, hB4⟩))
      have hbx : w3.cell? ⟨w.heap.size, 0, none⟩ = some (.slice (some ⟨b, off, none⟩) p.length cap) := by
        rw [hc3 _ _ (by omega), hc2 _ _ (by omega), hc1 _ _ (by omega)]; simp
      clear hc1 hc2 hc3 hf1 hf2' hf3 hB1 hB2 hB3 hX1 hX2 hX c0 c4 hgr hmy hrr
      replace hX3 := hX3.out
      replace hz3 : w.heap.size < w3.heap.size := hz3
      replace hl1 := hide hl1
      replace hl4 := hide hl4
      go_loopw [3, 4] (fun x i wr => ∃ k : Nat, k ≤ p.length ∧ i = .int .i64 k ∧ x = .int .i64 (longF (p.take k)) ∧ Below w.heap.size w wr ∧ wr.cell? ⟨w.heap.size, 0, none⟩ = some (.slice (some ⟨b, off, none⟩) p.length cap) ∧ w.heap.size < wr.heap.size) (fun _ i _ => p.length - (intOf i).toNat)
      case atStart => exact ⟨0, by omega, rfl, by simp [longF], hX3, hbx, hz3⟩
      case round =>
        clear hX3 hbx hz3
        obtain ⟨k, hk, rfl, rfl, hB, hbx, hz⟩ := hrel
        obtain ⟨wo, rfl⟩ : ∃ wo : World, wo = wr := ⟨_, rfl⟩
        by_cases hlt : k < p.length
        · have hx := List.getElem?_eq_getElem hlt
          have hst := hstep.out k p[k] hx
          obtain ⟨cv, hcv, hat⟩ := hcell.out k p[k] hx
          obtain ⟨c0, c1, c2, c3, c4, c5⟩ := (hat.below hB hb).c6
          have hsn := hide (hlsn.out k p[k] hx)
          have q0 := hlo.out k
          have q1 := hhi.out k
          have q2 := hl4.out
          have hb2 : b < wo.heap.size := by omega
          have hw1 : IntKind.i64.wrap ((k : Int) + 1) = (k : Int) + 1 := IntWalk.i64_in _ (by omega)
          have hprev : p[k].strict = true → ∃ (j : Nat) (s : Sp), k = j + 1 ∧ p[j]? = some s ∧ s.neg = false := fun hs => by
            obtain ⟨-, h2⟩ := hst.strict hs
            cases k with
            | zero =>
              exfalso
              have h0 := hst0.out _ hx
              rw [h0.2] at hs
              cases hs
            | succ j =>
              have hj := List.getElem?_eq_getElem (show j < p.length by omega)
              exact ⟨j, p[j], rfl, hj, by simpa [stepAt, hj] using h2⟩
          replace hprev := hide hprev
          clear hat hx
          generalize p[k] = s at *
          obtain ⟨neg, kind, mn, mx, strict, cmps⟩ := s
          obtain ⟨k0, k6, m1, m2, m3, hng, hstr, hcl, hask⟩ := hst
          simp only at c0 c1 c2 c3 c4 c5 hsn k0 k6 m1 m2 m3 hng hstr hcl hask hprev hcv
          obtain ⟨Ac, kc, hcve⟩ : ∃ A cap, cv = .slice A cmps.length cap := by
            obtain ⟨A, cap, b, off, e, -⟩ := hcv
            exact ⟨A, cap, e⟩
          subst hcve
          replace hask := hide hask
          replace hcv := hide hcv
          have hcl' : (cmps.length : Int) ≤ 4 := by omega
          generalize hlong : longF (p.take k) = x at *
          clear hlong
          have hcase : (neg = true ∧ strict = false ∧ mx = 1) ∨ (neg = false ∧ strict = false) ∨ (neg = false ∧ strict = true) := by
            cases neg with
            | true => exact .inl ⟨rfl, (hng rfl).2, (hng rfl).1⟩
            | false => cases strict <;> simp
          clear hng hstr
          have hw2 : IntKind.i64.wrap (x + mx) = x + mx := IntWalk.i64_in _ (by omega)
          clear q2
          have hns : ∀ c ∈ cmps, ∀ n ∈ c.l.names ++ c.r.names, 0 ≤ n ∧ n ≤ k ∧ (n < k → ∃ (i : Nat) (s : Sp), n = i ∧ p[i]? = some s ∧ s.neg = false ∧ s.max = 1) := fun c hc n hn => by
            obtain ⟨a1, a2, a3⟩ := hask.out c hc n hn
            refine ⟨a1, a2, fun hlt2 => ?_⟩
            obtain ⟨e1, e2⟩ := a3 hlt2
            have hi := List.getElem?_eq_getElem (show n.toNat < p.length by omega)
            have hsa : stepAt p n.toNat = p[n.toNat] := by simp [stepAt, hi]
            rw [hsa] at e1 e2
            exact ⟨n.toNat, _, by omega, hi, e1, e2⟩
          replace hns := hide hns
          clear hask
          obtain ⟨y, hye⟩ : ∃ y, longF (p.take (k + 1)) = y := ⟨_, rfl⟩
          have hy1 : y = x + (if neg = true then 0 else mx) := by rw [← hye]; exact hsn.out
          replace hye := hide hye
          replace hy1 := hide hy1
          clear hsn
          go_upto_region 10 with (fail)
          generalize hV : wo.alloc (.cells #[_, _, _, _, _, .slice Ac cmps.length kc] 30) = V
          have s0 : V.cell? ⟨wo.heap.size, 0, none⟩ = some (.bool neg) := by rw [← hV]; simp
          have s1 : V.cell? ⟨wo.heap.size, 1, none⟩ = some (.int .i64 kind) := by rw [← hV]; simp
          have s2 : V.cell? ⟨wo.heap.size, 2, none⟩ = some (.int .i64 mn) := by rw [← hV]; simp
          have s3 : V.cell? ⟨wo.heap.size, 3, none⟩ = some (.int .i64 mx) := by rw [← hV]; simp
          have s4 : V.cell? ⟨wo.heap.size, 4, none⟩ = some (.bool strict) := by rw [← hV]; simp
          have s5 : V.cell? ⟨wo.heap.size, 5, none⟩ = some (.slice Ac cmps.length kc) := by rw [← hV]; simp
          have sb : V.cell? ⟨w.heap.size, 0, none⟩ = some (.slice (some ⟨b, off, none⟩) p.length cap) := by rw [← hV]; exact (World.cell?_alloc_lt _ _ _ hz).trans hbx
          have sB : Below w.heap.size w V := by rw [← hV]; exact hB.alloc hB.size _
          have sz : wo.heap.size < V.heap.size := by rw [← hV]; simp
          clear hV c0 c1 c2 c3 c4 c5
          go_cut [3, 126] from 57 to 194 (fun x' q' w' => x' = .int .i64 x ∧ q' = .bool false ∧ w' = V)
          case first =>
            rcases hcase with ⟨rfl, rfl, rfl⟩ | ⟨rfl, rfl⟩ | ⟨rfl, rfl⟩
            · clear hprev hw2
              go_wp2
              go_meet
              exact ⟨rfl, by first | rfl | (simp; done) | (simp; omega), rfl⟩
            · clear hprev
              go_wp2
              go_meet
              exact ⟨rfl, by first | rfl | (simp; done) | (simp; omega), rfl⟩
            · obtain ⟨j, s, hkj, hj, hn⟩ := hprev.out rfl
              obtain ⟨cvj, hcvj, hatj⟩ := hcell.out j s hj
              obtain ⟨d0, -, -, -, -, -⟩ := (hatj.below sB hb).c6
              rw [hn] at d0
              have hj2 : (j : Int) < p.length := by omega
              have hw3 : IntKind.i64.wrap ((k : Int) - 1) = (k : Int) - 1 := IntWalk.i64_in _ (by omega)
              have hmx : max ((k : Int) - 1) 0 = (j : Int) := by omega
              clear hprev hj hn hcvj hatj hkj
              go_wp2
              go_meet
              exact ⟨rfl, by first | rfl | (simp; done) | (simp; omega), rfl⟩
          case rest =>
          obtain ⟨rfl, rfl, hwV⟩ := hcut
          obtain rfl : V = wc := hwV.symm
          clear hprev s1 s2 s4 hcase
          go_upto_if 129 with (fail)
          go_cut [3] from 57 to 194 (fun x' w' => x' = .int .i64 y ∧ w' = V)
          case first =>
            cases neg with
            | true =>
              have hy2 : Hid (y = x) := hide (by rw [hy1.out]; simp)
              clear hy1 hw2
              go_wp2
              go_meet
              exact ⟨by rw [hy2.out], rfl⟩
            | false =>
              have hy2 : Hid (y = x + mx) := hide (by rw [hy1.out]; simp)
              clear hy1
              go_wp2
              go_meet
              exact ⟨by rw [hy2.out], rfl⟩
          case rest =>
          obtain ⟨rfl, hwV⟩ := hcut
          obtain rfl : V = wc := hwV.symm
          clear s0 s3 hw2 hy1
          go_upto_region 15 with (fail)
          go_loopw [6] (fun i wr => ∃ m : Nat, m ≤ cmps.length ∧ i = .int .i64 m ∧ Below V.heap.size V wr) (fun i _ => cmps.length - (intOf i).toNat)
          case atStart => exact ⟨0, by omega, rfl, Below.refl _ _⟩
          case round =>
            obtain ⟨m, hm, rfl, hBq⟩ := hrel
            obtain ⟨wq, rfl⟩ : ∃ wq : World, wq = wr := ⟨_, rfl⟩
            have t5 := (hBq.cell (p := ⟨wo.heap.size, 5, none⟩) sz).trans s5
            have tb := (hBq.cell (p := ⟨w.heap.size, 0, none⟩) (by show w.heap.size < V.heap.size; omega)).trans sb
            have tB := sB.trans (hBq.mono (by omega))
            have hzq := hBq.size
            have hzo : wo.heap.size < wq.heap.size := by omega
            by_cases hlm : m < cmps.length
            · obtain ⟨A', cap', b', off', e, g2, g3, g4, g5⟩ := hcv.out
              obtain ⟨rfl, hb'⟩ := g4 (by omega)
              injection e with e1 e2 e3
              subst e1 e3
              have hy := List.getElem?_eq_getElem hlm
              obtain ⟨us, ⟨rfl, -⟩, hat⟩ := g5 m cmps[m] hy
              obtain ⟨c0, c1, c2, c3, c4, c5, c6, c7, c8⟩ := (hat.below tB hb').c9
              have hn2 := hide (hns.out cmps[m] (List.getElem_mem hlm))
              have hb3 : b' < wq.heap.size := by omega
              clear hat g4 g5 hy
              generalize cmps[m] = c at *
              obtain ⟨op, l, r⟩ := c
              simp only at c0 c1 c2 c3 c4 c5 c6 c7 c8 hn2
              have hnl := tnames_len l
              have hnr := tnames_len r
              go_upto_region 17 with (fail)
              refine wp_region_two l.names r.names 6 13 14 (by kernel_rfl) (by kernel_rfl) ?_
              repeat (refine wpRel_one rfl (fun K hK => ?_); go_simp; refine hK _ _ ?_; clear hK K)
              refine wpRel_eff (R := (FullV l.names, fun _ v w => OwF w wq.heap.size v l.names)) rfl (fun K hK => ?_)
              go_simp
              refine ⟨fun n => calls_two l (Nat.le_refl _), fun v1 hv1 => ?_⟩
              refine hK _ _ ?_
              clear hK K
              repeat (refine wpRel_one rfl (fun K hK => ?_); go_simp; refine hK _ _ ?_; clear hK K)
              refine wpRel_eff (R := (FullV r.names, fun _ v w => OwF w wq.heap.size v r.names)) rfl (fun K hK => ?_)
              go_simp
              refine ⟨fun n => calls_two r (Nat.le_refl _), fun v2 hv2 => ?_⟩
              refine hK _ _ ?_
              clear hK K
              refine wpRel_app_two (v1 := v1) (v2 := v2) (.tmp 147) (.tmp 154) (Nat.le_refl _) rfl rfl rfl rfl (by omega) (by decide) (by decide) (List.Mem.tail _ (List.Mem.head _)) (List.Mem.head _) (fun v3 => ?_)
              refine wpRel_one rfl (fun K hK => ?_)
              go_simp
              refine hK _ _ ?_
              clear hK K
              refine wpRel_nil ?_
              rintro w7 ⟨n7, rfl⟩ hΓ
              have hall : OwI (grown wq.heap.size wq n7) wq.heap.size v3 (l.names ++ r.names) := hΓ _ (List.mem_cons_self ..)
              have hB7 := grown_below wq.heap.size wq n7
              have hz7 := grown_size wq.heap.size wq n7 (Nat.le_refl _)
              clear hΓ hv1 hv2 c0 c1 c2 c3 c4 c5 c6 c7 c8
              generalize hnse : l.names ++ r.names = ns at *
              have hnl : ns.length ≤ 4 := by rw [← hnse]; simp only [List.length_append]; omega
              clear hnse
              have tb7 := (hB7.cell (p := ⟨w.heap.size, 0, none⟩) (by show w.heap.size < wq.heap.size; omega)).trans tb
              have t57 := (hB7.cell (p := ⟨wo.heap.size, 5, none⟩) hzo).trans t5
              have tB7 := tB.trans (hB7.mono (by omega))
              have hBq7 := hBq.trans (hB7.mono hzq)
              generalize grown wq.heap.size wq n7 = V7 at *
              have hrd := hall.rd
              obtain ⟨A2, k2, b2, off2, e2, f2, f3, f4, f5⟩ := hrd
              subst e2
              have hb7 : b < V7.heap.size := by omega
              clear hB7 hall t5 tb tB hBq hzo hb3
              go_wp2
              go_loop [8] (fun j => ∃ i : Nat, i ≤ ns.length ∧ j = .int .i64 i) (fun j => ns.length - (intOf j).toNat)
              case atStart => exact ⟨0, by omega, rfl⟩
              case round =>
                obtain ⟨i, hi, rfl⟩ := hrel
                by_cases hli : i < ns.length
                · obtain ⟨rfl, hb8⟩ := f4 (by omega)
                  have hy := List.getElem?_eq_getElem hli
                  obtain ⟨us, rfl, hat2⟩ := f5 i ns[i] hy
                  have d0 := hat2.c1
                  simp only [Nat.mul_one] at d0
                  obtain ⟨a1, a2, a3⟩ := hn2.out ns[i] (List.getElem_mem hli)
                  clear hat2 f5 hy
                  generalize ns[i] = n at *
                  by_cases hnk : n < k
                  · obtain ⟨x, s, rfl, hs, hneg, hmax⟩ := a3 hnk
                    obtain ⟨cvj, hcvj, hatj⟩ := hcell.out x s hs
                    obtain ⟨u0, -, -, u3, -, -⟩ := (hatj.below tB7 hb).c6
                    rw [hneg] at u0
                    rw [hmax] at u3
                    have hxp : (x : Int) < p.length := by omega
                    clear a3 hs hneg hmax hcvj hatj
                    go_wp2
                    exact ⟨⟨i + 1, by omega, rfl⟩, by simp [intOf]; omega⟩
                  · have hnk2 : n = k := by omega
                    subst hnk2
                    clear a3
                    go_wp2
                    exact ⟨⟨i + 1, by omega, rfl⟩, by simp [intOf]; omega⟩
                · obtain rfl : i = ns.length := by omega
                  clear f4 f5
                  go_wp2
                  exact ⟨⟨m + 1, by omega, rfl, hBq7⟩, by simp [intOf]; omega⟩
            · obtain rfl : m = cmps.length := by omega
              go_wp2
              exact ⟨⟨k + 1, by omega, rfl, by rw [hye.out], tB, tb, by omega⟩, by simp [intOf]; omega⟩
        · obtain rfl : k = p.length := by omega
          rw [List.take_of_length_le (Nat.le_refl _)]
          have g1 := hl1.out
          have g4 := hl4.out
          generalize longF p = x at *
          clear hstep hlo hhi hlsn hcell hst0
          go_wp2_with (go_at_call 27; (with_reducible refine (wakes11_true _).mono ?_); rintro e1 w4 ⟨rfl, hB4⟩)
          go_ret
          exact ⟨rfl, hB.trans (hB4.mono hB.size)⟩
end Go.Proofs.Ytidddeobachjgaa
