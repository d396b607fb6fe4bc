/- The law TreeAsked: its walk. -/
import Derived.Test.YtidddeobachjgaaWkT
import Derived.Test.YtidddeobachjgaaLibX
import Derived.Test.YtidddeobachjgaaPlX
import Derived.Test.YtidddeobachjgaaRaB
import Derived.Deep.CutRange
namespace Go.Proofs.Ytidddeobachjgaa
open Go.RowKit
attribute [local go_sem] grown_cell grown_frozen relVal relEff dDecl

theorem OwI.cellAt {w : World} {base : Nat} {v : Value} {l : List Int} (h : OwI w base v l) {k : Nat} {x : Int} (hx : l[k]? = some x) : ∃ g cap, v = .slice (some ⟨g, 0, none⟩) l.length cap ∧ base ≤ g ∧ g < w.heap.size ∧ w.cell? ⟨g, k, none⟩ = some (.int .i64 x) := by
  have hk := (List.getElem?_eq_some_iff.1 hx).1
  obtain ⟨g, cap, rfl, h1, h2⟩ := h.form1 (by rintro rfl; simp at hk)
  have hc := World.ownsRow.cells h (g := g) rfl k (.int .i64 x) (by simp [hx])
  rw [Addr.add_lit] at hc
  exact ⟨g, cap, rfl, h1, h2, by simpa using hc⟩

/-- What has been found of the first m of two terms. -/
def accB (q a b : Bool) (m : Nat) : Bool := if m = 0 then q else if m = 1 then (q || a) else (q || (a || b))
theorem two_terms {w : World} {g : Nat} {t : TypeId} {l r : Tm} (h : Blk w g t #[.int .u8 l.k, .int .i64 l.n, .int .i64 l.s, .int .i64 l.r, .int .u8 r.k, .int .i64 r.n, .int .i64 r.s, .int .i64 r.r]) (n : Int) (q : Bool) {m : Nat} (hm : m < 2) :
    ∃ u : Tm, (u = l ∨ u = r) ∧ w.cell? ⟨g, m * 4, none⟩ = some (.int .u8 u.k) ∧ w.cell? ⟨g, m * 4 + 1, none⟩ = some (.int .i64 u.n) ∧ w.cell? ⟨g, m * 4 + 2, none⟩ = some (.int .i64 u.s) ∧ w.cell? ⟨g, m * 4 + 3, none⟩ = some (.int .i64 u.r) ∧
      accB q (hasB l n) (hasB r n) (m + 1) = (accB q (hasB l n) (hasB r n) m || hasB u n) := by
  obtain rfl | rfl : m = 0 ∨ m = 1 := by omega
  · exact ⟨l, .inl rfl, h.cell 0, h.cell 1, h.cell 2, h.cell 3, rfl⟩
  · exact ⟨r, .inr rfl, h.cell 4, h.cell 5, h.cell 6, h.cell 7, by simp [accB, Bool.or_assoc]⟩

set_option maxRecDepth 100000 in
set_option maxHeartbeats 8000000 in
theorem treeAsked_walk (s : Sp) (n : Int) (cv : Value) (w : World) (h : RdC w w.heap.size cv s.cmps) :
    Calls Try.prog 4 #[spV s cv, .int .i64 n] w fun e w' => e = .returned (.bool true) ∧ Below w.heap.size w w' := by
  have hll := RdL.lenle h
  have hrh := hide h
  obtain ⟨Ac, kc, hcve⟩ : ∃ A cap, cv = .slice A s.cmps.length cap := by
    obtain ⟨A, cap, b, off, e, -⟩ := h
    exact ⟨A, cap, e⟩
  subst hcve
  have has := hide fun w1 (hb : Below w.heap.size w w1) (hl : s.cmps.length ≤ 100000) => asked_any s _ w1 (h.below hb hb.size) hl
  clear h
  obtain ⟨neg, kind, mn, mx, strict, cmps⟩ := s
  simp only at hll hrh has
  have hX := hide ((Below.refl w.heap.size w).alloc (Nat.le_refl _) (.cells #[.bool neg, .int .i64 kind, .int .i64 mn, .int .i64 mx, .bool strict, .slice Ac cmps.length kc] 30))
  by_cases h20 : 20 < cmps.length
  · have h20' : 20 < (cmps.length : Int) := by omega
    clear hrh has
    go_enter Try.func4, Try.ntmps4
    go_wp2_with (go_at_call 14; (with_reducible refine (wakes08_true _).mono ?_); rintro e w2 ⟨rfl, hB2⟩)
    go_ret
    exact ⟨rfl, hX.out.trans (hB2.mono (by simp))⟩
  · replace h20 : cmps.length ≤ 20 := by omega
    replace has := hide fun w1 hb => has.out w1 hb (by omega)
    have h20' : (cmps.length : Int) ≤ 20 := by omega
    go_enter Try.func4, Try.ntmps4
    go_wp2_with (go_at_call 19; (with_reducible refine (stayo (G := w.heap.size + 1) (has.out _ hX.out) (by simp)).mono ?_); rintro e w1 ⟨⟨v1, rfl, ho1⟩, hc1, hf1, hz1, hB1⟩; obtain ⟨A1, k1, rfl⟩ := ho1.form)
    have e5 : w1.cell? ⟨w.heap.size, 5, none⟩ = some (.slice Ac cmps.length kc) := by rw [hc1 _ _ (by omega)]; simp
    have s0 : Below w.heap.size w w1 := hX.out.trans (hB1.out.mono (by omega))
    clear hc1 hf1 hB1 hX has
    replace ho1 := hide (ho1.mono (by simp) : OwI w1 (w.heap.size + 1) (.slice A1 (asked cmps).length k1) (asked cmps))
    have hlen : (asked cmps).length ≤ 80 := by
      have := asked_len cmps cmps.length
      rw [List.take_of_length_le (Nat.le_refl _)] at this
      omega
    have hri : Hid (Rise (asked cmps)) := hide (asked_rise cmps)
    have hasn := hide (asksB_mem cmps n)
    have hinn := hide (inB_mem (asked cmps) n)
    have hna := hide fun (k : Nat) (c : Cm) (hc : cmps[k]? = some c) (t : Tm) (ht : t = c.l ∨ t = c.r) (m : Int) (hm : m ∈ t.names) => name_asked hc ht hm
    generalize asked cmps = L at *
    have hz : w.heap.size < w1.heap.size := hz1
    go_loopw [6, 7] (fun q i wr => ∃ k : Nat, k ≤ L.length ∧ i = .int .i64 k ∧ q = .bool (inB (L.take k) n) ∧ Below w1.heap.size w1 wr) (fun _ i _ => L.length - (intOf i).toNat)
    case atStart => exact ⟨0, by omega, rfl, rfl, Below.refl _ _⟩
    case round =>
      obtain ⟨k, hk, rfl, rfl, hB⟩ := hrel
      by_cases hlt : k < L.length
      · have hx := List.getElem?_eq_getElem hlt
        obtain ⟨g, cap, e, hg1, hg2, d0⟩ := ho1.out.cellAt hx
        injection e with e1 _ e3
        subst e1 e3
        replace d0 := (hB.cell (p := ⟨g, k, none⟩) hg2).trans d0
        have hg3 : g < wr.heap.size := Nat.lt_of_lt_of_le hg2 hB.size
        have hsn := hide (inB_snoc hx n)
        have hprev : ∀ j, k = j + 1 → ∃ y, wr.cell? ⟨g, j, none⟩ = some (.int .i64 y) ∧ y < L[k] := fun j hj => by
          have hy := List.getElem?_eq_getElem (show j < L.length by omega)
          obtain ⟨g', cap', e', -, hg', d'⟩ := ho1.out.cellAt hy
          injection e' with e1 _ _
          injection e1 with e1
          injection e1 with e1
          subst e1
          refine ⟨L[j], (hB.cell (p := ⟨g, j, none⟩) hg').trans d', ?_⟩
          exact List.pairwise_iff_getElem.1 hri.out j k (by omega) hlt (by omega)
        clear hx
        generalize hLk : L[k] = x at *
        clear hLk
        generalize inB (L.take k) n = q at *
        rcases Nat.eq_zero_or_pos k with h0 | h0
        · have d1 : decide (0 < (k : Int)) = false := by simp; omega
          have d2 : ¬ (0 < (k : Int)) := by omega
          have d8 : decide (0 < k) = false := by simp; omega
          clear hprev h0
          cases q
          all_goals
            go_wp2
            go_quiet (fail)
            go_wp2
            refine ⟨⟨k + 1, by omega, rfl, by rw [hsn.out]; rfl, bdrewN hB _⟩, by simp [intOf]; omega⟩
        · obtain ⟨j, hj⟩ : ∃ j, k = j + 1 := ⟨k - 1, by omega⟩
          obtain ⟨y, c0, hy⟩ := hprev j hj
          have d1 : decide (0 < (k : Int)) = true := by simp; omega
          have d2 : 0 < (k : Int) := by omega
          have d8 : decide (0 < k) = true := by simpa using h0
          have d3 : (k : Int) - 1 = j := by omega
          have d4 : IntKind.i64.wrap (j : Int) = j := IntWalk.i64_in _ (by omega)
          have d5 : decide (x ≤ y) = false := by simp; omega
          have d6 : ¬ (x ≤ y) := by omega
          have d7 : (j : Int) < L.length := by omega
          clear hprev hj hy
          cases q
          all_goals
            go_wp2
            go_quiet (fail)
            go_wp2
            refine ⟨⟨k + 1, by omega, rfl, by rw [hsn.out]; rfl, bdrewN hB _⟩, by simp [intOf]; omega⟩
      · obtain rfl : k = L.length := by omega
        rw [List.take_of_length_le (Nat.le_refl _)] at *
        have e5V := (hB.cell (p := ⟨w.heap.size, 5, none⟩) hz).trans e5
        have sV := s0.trans (hB.mono (by omega))
        have hoV := hide (ho1.out.below hB (by have := hB.size; omega))
        have hzV : w.heap.size < wr.heap.size := Nat.lt_of_lt_of_le hz hB.size
        clear hB e5 s0 ho1 hz
        obtain ⟨V, rfl⟩ : ∃ V : World, V = wr := ⟨_, rfl⟩
        go_wp2
        go_loopw [8, 9] (fun q i wr => ∃ k : Nat, k ≤ cmps.length ∧ i = .int .i64 k ∧ q = .bool (asksB (cmps.take k) n) ∧ Below V.heap.size V wr) (fun _ i _ => cmps.length - (intOf i).toNat)
        case atStart => exact ⟨0, by omega, rfl, rfl, Below.refl _ _⟩
        case round =>
          obtain ⟨k, hk, rfl, rfl, hB⟩ := hrel
          obtain ⟨wq, rfl⟩ : ∃ wq : World, wq = wr := ⟨_, rfl⟩
          have e5q := (hB.cell (p := ⟨w.heap.size, 5, none⟩) hzV).trans e5V
          have sq := sV.trans (hB.mono (by omega))
          have hoq := hide (hoV.out.below hB (Nat.le_refl _))
          have hzq : w.heap.size < wq.heap.size := Nat.lt_of_lt_of_le hzV hB.size
          have hBq := hide hB
          clear hB
          by_cases hlt : k < cmps.length
          · obtain ⟨A', cap', b, off, e, g2, g3, g4, g5⟩ := hrh.out
            obtain ⟨rfl, hb⟩ := g4 (by omega)
            injection e with e1 e2 e3
            subst e1 e3
            have hx := List.getElem?_eq_getElem hlt
            obtain ⟨us, ⟨rfl, -⟩, hat⟩ := g5 k cmps[k] hx
            obtain ⟨c0, c1, c2, c3, c4, c5, c6, c7, c8⟩ := (hat.below sq hb).c9
            have hsn := hide (asksB_snoc hx n)
            have hna2 := hide (hna.out k cmps[k] hx)
            have hb2 : b < wq.heap.size := by omega
            clear hat g4 g5 hx
            generalize cmps[k] = c at *
            generalize asksB (cmps.take k) n = q at *
            obtain ⟨op, l, r⟩ := c
            simp only at c0 c1 c2 c3 c4 c5 c6 c7 c8 hsn hna2
            go_upto_region 15 with (fail)
            refine wp_region_decl (fun w' => ∃ n, w' = grown wq.heap.size wq n) wq.heap.size 41 #[.int .u8 l.k, .int .i64 l.n, .int .i64 l.s, .int .i64 l.r, .int .u8 r.k, .int .i64 r.n, .int .i64 r.s, .int .i64 r.r] 13 14 (fun _ => none) (by decide) (by kernel_rfl) (by kernel_rfl) ⟨wq.drew, (grown_of ((Below.refl _ _).drew) (Nat.le_refl _)).symm⟩ ?_
            repeat (refine wpRel_one rfl (fun K hK => ?_); go_simp; refine hK _ _ ?_; clear hK K)
            refine wpRel_eff (R := (NewPtr wq.heap.size, fun _ => NewBlk wq.heap.size 41 8)) rfl (fun K hK => ?_)
            go_simp
            refine ⟨fun n => alloc_decl (Nat.le_refl _) (by rfl) n, fun v hv => ?_⟩
            refine hK _ _ ?_
            clear hK K
            obtain ⟨go, rfl, hgo⟩ := hv
            refine wpRel_eff (R := (fun v => v = undef, fun vs _ => SetBlk wq.heap.size 41 #[.int .u8 l.k, .int .i64 l.n, .int .i64 l.s, .int .i64 l.r, .int .u8 r.k, .int .i64 r.n, .int .i64 r.s, .int .i64 r.r] (vs 13))) rfl (fun K hK => ?_)
            go_simp
            refine ⟨fun n hnb => ?_, ?_⟩
            · obtain ⟨g', cs, e, hg', hh, hsz⟩ := hnb
              obtain ⟨y0, y1, y2, y3, y4, y5, y6, y7, rfl⟩ := array8 hsz
              obtain rfl : go = g' := by injection e with e; injection e with e; injection e
              have b0 : Blk (grown wq.heap.size wq n) go 41 #[y0, y1, y2, y3, y4, y5, y6, y7] := hh
              have b1 := b0.set_ 0 (.int .u8 l.k)
              have b2 := b1.set_ 1 (.int .i64 l.n)
              have b3 := b2.set_ 2 (.int .i64 l.s)
              have b4 := b3.set_ 3 (.int .i64 l.r)
              have b5 := b4.set_ 4 (.int .u8 r.k)
              have b6 := b5.set_ 5 (.int .i64 r.n)
              have b7 := b6.set_ 6 (.int .i64 r.s)
              have k0 := b0.cell 0
              have k1 := b1.cell 1
              have k2 := b2.cell 2
              have k3 := b3.cell 3
              have k4 := b4.cell 4
              have k5 := b5.cell 5
              have k6 := b6.cell 6
              have k7 := b7.cell 7
              have f0 := b0.frozen 0
              have f1 := b1.frozen 1
              have f2 := b2.frozen 2
              have f3 := b3.frozen 3
              have f4 := b4.frozen 4
              have f5 := b5.frozen 5
              have f6 := b6.frozen 6
              have f7 := b7.frozen 7
              obtain ⟨hE, hB⟩ := E1_set8 (x0 := .int .u8 l.k) (x1 := .int .i64 l.n) (x2 := .int .i64 l.s) (x3 := .int .i64 l.r) (x4 := .int .u8 r.k) (x5 := .int .i64 r.n) (x6 := .int .i64 r.s) (x7 := .int .i64 r.r) hgo b0
              have hG := grown_E1 (Nat.le_refl _) hE
              unfold set8 at hE hB hG
              clear b0 b1 b2 b3 b4 b5 b6 b7
              simp at k0 k1 k2 k3 k4 k5 k6 k7
              simp only [k0, k1, k2, k3, k4, k5, k6, k7, f0, f1, f2, f3, f4, f5, f6, f7, Result.andThen_ok, Bool.false_eq_true, if_false]
              exact ⟨hG, hE, ⟨go, rfl, hgo, hB⟩⟩
            refine hK _ _ ?_
            clear hK K
            refine wpRel_nil ?_
            rintro w7 ⟨n7, rfl⟩ hΓ
            obtain ⟨go', e7, hgo7, hblk⟩ := hΓ _ (List.mem_cons_self ..)
            obtain rfl : go = go' := by simp [upd] at e7; exact e7
            clear hΓ e7 c0 c1 c2 c3 c4 c5 c6 c7 c8
            have hblk : Blk (grown wq.heap.size wq n7) go 41 #[.int .u8 l.k, .int .i64 l.n, .int .i64 l.s, .int .i64 l.r, .int .u8 r.k, .int .i64 r.n, .int .i64 r.s, .int .i64 r.r] := hblk
            have hB7 := grown_below wq.heap.size wq n7
            have hz7 := grown_size wq.heap.size wq n7 (Nat.le_refl _)
            have e57 := (hB7.cell (p := ⟨w.heap.size, 5, none⟩) hzq).trans e5q
            have ho7 := hide (hoq.out.below hB7 (Nat.le_refl _))
            have hBV7 := hBq.out.trans (hB7.mono hBq.out.size)
            generalize grown wq.heap.size wq n7 = V2 at *
            replace hblk := hide hblk
            replace hBV7 := hide hBV7
            clear e5q hB7 sq
            go_wp2
            go_loopw [8, 11] (fun q' i wr => ∃ m : Nat, m ≤ 2 ∧ i = .int .i64 m ∧ q' = .bool (accB q (hasB l n) (hasB r n) m) ∧ Below V2.heap.size V2 wr) (fun _ i _ => 2 - (intOf i).toNat)
            case atStart => exact ⟨0, by omega, rfl, rfl, Below.refl _ _⟩
            case round =>
              obtain ⟨m, hm, rfl, rfl, hB3⟩ := hrel
              obtain ⟨w3, rfl⟩ : ∃ w3 : World, w3 = wr := ⟨_, rfl⟩
              by_cases hlm : m < 2
              · have hbl3 := hblk.out.below hB3 hblk.out.lt
                obtain ⟨u, hu, d0, d1, d2, d3, hacc⟩ := two_terms hbl3 n q hlm
                have hna3 := hide (hna2.out u hu)
                have hz3 := hB3.size
                have ho3 := hide (ho7.out.below hB3 (Nat.le_refl _))
                have hgo3 : go < w3.heap.size := hbl3.lt
                have hlm' : (m : Int) < 2 := by omega
                replace hacc := hide hacc
                replace hB3 := hide hB3
                clear hbl3
                generalize accB q (hasB l n) (hasB r n) m = qa at *
                go_upto_region 19 with (fail)
                go_cut [8] from 72 to 143 (fun x' w' => x' = .bool (qa || hasB u n) ∧ w' = w3)
                case first =>
                  obtain ⟨uk, un, us, ur⟩ := u
                  simp only at d0 d1 d2 d3
                  cases qa with
                  | true =>
                    go_wp2
                    go_meet
                    exact ⟨by simp, rfl⟩
                  | false =>
                    by_cases h0 : uk = 0
                    · subst h0
                      go_wp2
                      go_meet
                      exact ⟨by simp [hasB], rfl⟩
                    have z1 : (uk == 0) = false := by simpa using h0
                    have z2 : (uk != 0) = true := by simpa using h0
                    by_cases hs : us = n
                    · subst hs
                      have hv : Hid (hasB ⟨uk, un, us, ur⟩ us = true) := hide (by simp [hasB, h0])
                      clear h0
                      go_wp2
                      go_meet
                      exact ⟨by rw [hv.out]; rfl, rfl⟩
                    have z3 : (us == n) = false := by simpa using hs
                    by_cases h5 : uk = 5
                    · subst h5
                      have hv : Hid (hasB ⟨5, un, us, ur⟩ n = (ur == n)) := hide (by simp [hasB, hs]; rfl)
                      clear h0 z1 z2 hs
                      go_wp2
                      go_meet
                      exact ⟨by rw [hv.out]; rfl, rfl⟩
                    have z5 : (uk == 5) = false := by simpa using h5
                    by_cases h6 : uk = 6
                    · subst h6
                      have hv : Hid (hasB ⟨6, un, us, ur⟩ n = (ur == n)) := hide (by simp [hasB, hs]; rfl)
                      clear h0 z1 z2 hs h5 z5
                      go_wp2
                      go_meet
                      exact ⟨by rw [hv.out]; rfl, rfl⟩
                    have z6 : (uk == 6) = false := by simpa using h6
                    have hv : Hid (hasB ⟨uk, un, us, ur⟩ n = false) := hide (by simp [hasB, hs, h5, h6])
                    clear h0 hs h5 h6
                    go_wp2
                    go_meet
                    exact ⟨by rw [hv.out]; rfl, rfl⟩
                case rest =>
                obtain ⟨rfl, hwV⟩ := hcut
                obtain rfl : w3 = wc := hwV.symm
                go_wp2_with (go_at_call 20; (with_reducible refine (tnames_any u _).mono ?_); rintro e5 w5 ⟨⟨v5, rfl, hn5⟩, hB5⟩; obtain ⟨A5, k5, rfl⟩ := hn5.form)
                have ho5 := hide (ho3.out.below hB5 (Nat.le_refl _))
                have hB35 := hide (hB3.out.trans (hB5.mono hz3))
                clear hB5 hB3 ho3 d0 d1 d2 d3 hgo3
                have hnl := names_len u
                generalize u.names = ns at *
                replace hn5 := hide hn5
                have hz5 := hB35.out.size
                go_loopw [13] (fun j wr => ∃ m : Nat, m ≤ ns.length ∧ j = .int .i64 m ∧ Below w5.heap.size w5 wr) (fun j _ => ns.length - (intOf j).toNat)
                case atStart => exact ⟨0, by omega, rfl, Below.refl _ _⟩
                case round =>
                  obtain ⟨i, hi, rfl, hB6⟩ := hrel
                  obtain ⟨w6, rfl⟩ : ∃ w6 : World, w6 = wr := ⟨_, rfl⟩
                  by_cases hli : i < ns.length
                  · have hx := List.getElem?_eq_getElem hli
                    obtain ⟨g9, c9, e9, -, hg9, x9⟩ := hn5.out.cellAt hx
                    injection e9 with e1 _ e3
                    subst e1 e3
                    replace x9 := (hB6.cell (p := ⟨g9, i, none⟩) hg9).trans x9
                    have hin := hide (hna3.out ns[i] (List.getElem_mem hli))
                    have ho6 := hide (ho5.out.below hB6 (Nat.le_refl _))
                    have hg6 : g9 < w6.heap.size := Nat.lt_of_lt_of_le hg9 hB6.size
                    replace hB6 := hide hB6
                    clear hx
                    generalize ns[i] = x at *
                    go_upto_region 26 with (fail)
                    go_loopw [14, 15] (fun y j wr => ∃ m : Nat, m ≤ L.length ∧ j = .int .i64 m ∧ y = .bool (inB (L.take m) x) ∧ Below w6.heap.size w6 wr) (fun _ j _ => L.length - (intOf j).toNat)
                    case atStart => exact ⟨0, by omega, rfl, rfl, Below.refl _ _⟩
                    case round =>
                      obtain ⟨j, hj, rfl, rfl, hB7⟩ := hrel
                      by_cases hlj : j < L.length
                      · have hy := List.getElem?_eq_getElem hlj
                        obtain ⟨g8, c8, e8, -, hg8, x8⟩ := ho6.out.cellAt hy
                        injection e8 with e1 _ e3
                        subst e1 e3
                        replace x8 := (hB7.cell (p := ⟨g8, j, none⟩) hg8).trans x8
                        have y9 := (hB7.cell (p := ⟨g9, i, none⟩) hg6).trans x9
                        have hg8' : g8 < wr.heap.size := Nat.lt_of_lt_of_le hg8 hB7.size
                        have hg9' : g9 < wr.heap.size := Nat.lt_of_lt_of_le hg6 hB7.size
                        have hs2 := hide (inB_snoc hy x)
                        clear hy
                        generalize L[j] = y at *
                        generalize inB (L.take j) x = p at *
                        replace hB7 := hide hB7
                        cases p
                        all_goals
                          go_wp2
                          go_quiet (fail)
                          go_wp2
                          exact ⟨⟨j + 1, by omega, rfl, by rw [hs2.out]; rfl, bdrewN hB7.out _⟩, by simp [intOf]; omega⟩
                      · obtain rfl : j = L.length := by omega
                        rw [List.take_of_length_le (Nat.le_refl _)]
                        rw [hin.out]
                        replace hB7 := hide hB7
                        go_wp2
                        exact ⟨⟨i + 1, by omega, rfl, hB6.out.trans (hB7.out.mono hB6.out.size)⟩, by simp [intOf]; omega⟩
                  · obtain rfl : i = ns.length := by omega
                    replace hB6 := hide hB6
                    go_wp2
                    exact ⟨⟨m + 1, by omega, rfl, by rw [hacc.out], hB35.out.trans (hB6.out.mono hB35.out.size)⟩, by simp [intOf]; omega⟩
              · obtain rfl : m = 2 := by omega
                replace hB3 := hide hB3
                go_wp2
                exact ⟨⟨k + 1, by omega, rfl, by rw [hsn.out]; rfl, hBV7.out.trans (hB3.out.mono hBV7.out.size)⟩, by simp [intOf]; omega⟩
          · obtain rfl : k = cmps.length := by omega
            rw [List.take_of_length_le (Nat.le_refl _), hasn.out]
            rw [hinn.out]
            clear hna hasn hinn hri hoq hoV
            generalize decide (n ∈ L) = q at *
            cases q
            all_goals
              go_wp2_with (go_at_call 14; (with_reducible refine (wakes08_true _).mono ?_); rintro e2 w2 ⟨rfl, hB2⟩)
              go_ret
              exact ⟨rfl, sq.trans (hB2.mono sq.size)⟩
end Go.Proofs.Ytidddeobachjgaa
