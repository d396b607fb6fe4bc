/- Several texts of one proof: Which automata may be: the walk of the reference's Right. | The law NfaRows: its walk. | From a law's walk to its row: a call that hands back true, and below whose heap nothing has turned, meets 'it returns true, each argument reads as it did'. -/
import Derived.Test.YtmmbblfmhcegcaaGreatM04
import Derived.Deep.QuietTactic
import Derived.BigQuiet
import Derived.Test.YtmmbblfmhcegcaaGreatM26
import Derived.Test.YtmmbblfmhcegcaaGreatM24
import Derived.Test.YtmmbblfmhcegcaaGreatM25
import Derived.Test.YtmmbblfmhcegcaaGreatRows
import Derived.ProofKit
import Derived.Carry
import Derived.OpenShut
import Derived.SizedLaws
import Derived.Lib.SmallJoins
import Derived.Laws.IdiomArrays

namespace Go.Proofs.YtmmbblfmhcegcaaGreat
open Go.RowKit

set_option maxRecDepth 100000 in
set_option maxHeartbeats 4000000 in
theorem rright14_any (l : List St) (sv av : Value) (win : Int) (w : World) (h : RdT w w.heap.size sv l) (ha : ∃ A n c, av = .slice A n c) (hsm : Small l) :
    Calls Tryz.prog 10 #[atV sv av win] w fun e w' => e = .returned (.bool (autoR l)) ∧ Below w.heap.size w w' := by
  obtain ⟨Av, nv, cv, rfl⟩ := ha
  obtain ⟨A, cap, b, off, rfl, h2, h3, h4, h5⟩ := h
  replace hsm := hide hsm
  go_enter Tryz.func10, Tryz.ntmps10
  go_wp2
  go_loopw [3] (fun i wr => ∃ k : Nat, k ≤ l.length ∧ i = .int .i64 k ∧ Hid (∀ j s, j < k → l[j]? = some s → okAt l j s = true) ∧ Below w.heap.size w wr ∧ Blk wr w.heap.size 30 #[.slice A l.length cap, .slice Av nv cv, .int .i64 win]) (fun i _ => l.length - (intOf i).toNat)
  case atStart => exact ⟨0, by omega, rfl, hide (fun j s h => by omega), (Below.refl _ _).alloc (Nat.le_refl _) _, Blk.new_ rfl _ _⟩
  case round =>
    obtain ⟨k, hk, rfl, hok, hB, hbx⟩ := hrel
    have hz := hB.size
    by_cases hlt : k < l.length
    · obtain ⟨rfl, hb⟩ := h4 (by omega)
      obtain ⟨s, hs⟩ : ∃ s, l[k]? = some s := ⟨_, List.getElem?_eq_getElem hlt⟩
      obtain ⟨vs, ⟨gv, rfl, hgv⟩, hat⟩ := h5 k s hs
      obtain ⟨Ag, cg, hge⟩ : ∃ A c, gv = .slice A s.guards.length c := by
        obtain ⟨A, c, b, off, e, -⟩ := hgv
        exact ⟨A, c, e⟩
      subst hge
      obtain ⟨c0, c1, c2, c3, c4, c5⟩ := (hat.below hB hb).c6
      have x0 := hbx.cell 0
      simp at x0
      have hbl := hbx.lt
      have hno := hide fun (h : okAt l k s = false) => autoR_no hs h
      have hgo := hide (fun (h : okAt l k s = true) => show Hid (∀ j s, j < k + 1 → l[j]? = some s → okAt l j s = true) from hide fun j t hj ht => by
        by_cases e : j = k
        · subst e
          rw [hs] at ht
          cases ht
          exact h
        · exact hok.out j t (by omega) ht)
      have hsml := hsm.out s (List.mem_of_getElem? hs)
      have hprev := hide fun (j : Nat) (hj : j < k) => show ∃ t, l[j]? = some t ∧ placeAt l j = t.place ∧ -1000000 ≤ t.place ∧ t.place ≤ 1000000 ∧ wr.cell? ⟨b, off + j * 6 + 1, none⟩ = some (.int .i64 t.place) from by
        have hj2 : j < l.length := by omega
        obtain ⟨ws, ⟨gw, rfl, -⟩, hat'⟩ := h5 j l[j] (List.getElem?_eq_getElem hj2)
        have hm := hsm.out l[j] (List.getElem_mem _)
        exact ⟨l[j], List.getElem?_eq_getElem hj2, by simp [placeAt, List.getElem?_eq_getElem hj2], hm.1, hm.2, ((hat'.below hB hb).c6).2.1⟩
      clear hat h5 h4
      obtain ⟨st, pl, sr, gs, ah, la⟩ := s
      simp only at c0 c1 c2 c3 c4 c5 hgv hsml
      have hki : (k : Int) < l.length := by omega
      have hbr : b < wr.heap.size := by omega
      have hB2 := hide hB
      clear hgv
      by_cases t1 : ah < -1
      · have hr := hide (hno.out (by simp [okAt]; intro h; omega))
        go_wp2
        go_ret
        exact ⟨ret_bool hr.out.symm, hB2.out.alloc hB2.out.size _⟩
      replace t1 : -1 ≤ ah := by omega
      by_cases t2 : (k : Int) ≤ ah
      · have hr := hide (hno.out (by simp [okAt]; intro h1 h2; omega))
        go_wp2
        go_ret
        exact ⟨ret_bool hr.out.symm, hB2.out.alloc hB2.out.size _⟩
      replace t2 : ah < (k : Int) := by omega
      by_cases t3 : st < 0
      · have hr := hide (hno.out (by simp [okAt]; intro h1 h2 h3; omega))
        go_wp2
        go_ret
        exact ⟨ret_bool hr.out.symm, hB2.out.alloc hB2.out.size _⟩
      replace t3 : 0 ≤ st := by omega
      by_cases t4 : 6 ≤ st
      · have hr := hide (hno.out (by simp [okAt]; intro h1 h2 h3 h4; omega))
        go_wp2
        go_ret
        exact ⟨ret_bool hr.out.symm, hB2.out.alloc hB2.out.size _⟩
      replace t4 : st < 6 := by omega
      by_cases t5 : 0 ≤ ah
      · obtain ⟨j, rfl⟩ : ∃ j : Nat, ah = j := ⟨ah.toNat, by omega⟩
        obtain ⟨u, hu1, hu2, hu3, hu4, hu5⟩ := hprev.out j (by omega)
        have hjl : (j : Int) < l.length := by omega
        have hok2 : okAt l k ⟨st, pl, sr, gs, (j : Int), la⟩ = decide (pl = u.place + 1) := by simp [okAt, hu2, t1, t2, t3, t4]
        rw [hok2] at hno hgo
        have hw1 : IntKind.i64.wrap (u.place + 1) = u.place + 1 := IntWalk.i64_in _ (by omega)
        clear hprev hok2 hu1 hu2
        generalize u.place = up at *
        by_cases t6 : pl = up + 1
        · have z : (pl != up + 1) = false := by simp [t6]
          have hn := hgo.out (by simp [t6])
          replace t6 := hide t6
          clear hno hgo
          go_wp2
          go_quiet (fail)
          go_wp2
          exact ⟨⟨k + 1, by omega, rfl, hn, jdrewN (hB2.out.alloc hB2.out.size _) _, hbx.alloc _⟩, by simp [intOf]; omega⟩
        · have z : (pl != up + 1) = true := by simp [t6]
          have hr := hide (hno.out (by simp [t6]))
          replace t6 := hide t6
          clear hno hgo
          go_wp2
          go_quiet (fail)
          go_wp2
          go_ret
          exact ⟨ret_bool hr.out.symm, jdrewN (hB2.out.alloc hB2.out.size _) _⟩
      · have hok2 : okAt l k ⟨st, pl, sr, gs, ah, la⟩ = decide (pl = 0) := by simp [okAt, t1, t2, t3, t4, t5]
        rw [hok2] at hno hgo
        replace t5 : ah < 0 := by omega
        clear hprev hok2
        by_cases t6 : pl = 0
        · have z : (pl != 0) = false := by simp [t6]
          have hn := hgo.out (by simp [t6])
          have z2 : decide ((0 : Int) ≤ ah) = false := by simp; omega
          replace t6 := hide t6
          clear hno hgo
          go_wp2
          go_quiet (fail)
          go_wp2
          exact ⟨⟨k + 1, by omega, rfl, hn, jdrewN (hB2.out.alloc hB2.out.size _) _, hbx.alloc _⟩, by simp [intOf]; omega⟩
        · have z : (pl != 0) = true := by simp [t6]
          have hr := hide (hno.out (by simp [t6]))
          replace t6 := hide t6
          clear hno hgo
          go_wp2
          go_ret
          exact ⟨ret_bool hr.out.symm, hB2.out.alloc hB2.out.size _⟩
    · obtain rfl : k = l.length := by omega
      have hr : Hid (autoR l = true) := hide (autoR_yes fun i s hs => hok.out i s (List.getElem?_eq_some_iff.1 hs).1 hs)
      have x0 := hbx.cell 0
      simp at x0
      clear h4 h5
      go_wp2
      go_ret
      exact ⟨ret_bool hr.out.symm, hB⟩
end Go.Proofs.YtmmbblfmhcegcaaGreat

namespace Go.Proofs.YtmmbblfmhcegcaaGreat
open Go.RowKit
attribute [local go_sem] relVal relEff dT grown_cell grown_frozen valF rowF

theorem facts_small {p : List Sp} {l : List St} {a : List Int} (h : Facts p l a) : Small l := fun s hs => by
  obtain ⟨i, hi⟩ := List.getElem?_of_mem hs
  have := h.steps i s hi
  omega
theorem zero_rows : nrowsF [] = [] := by decide
/-- What lies in a's variable. -/
theorem RdT.len_form {w : World} {B : Nat} {v : Value} {l : List St} (h : RdT w B v l) : ∃ A c, v = .slice A l.length c := by
  obtain ⟨A, c, b, off, e, -⟩ := h
  exact ⟨A, c, e⟩

set_option maxRecDepth 100000 in
set_option maxHeartbeats 16000000 in
theorem nfaRows_walk (p : List Sp) (win : Int) (v : Value) (w : World) (h : RdS w w.heap.size v p) :
    Calls Tryz.prog 3 #[ptV v win] w fun e w' => e = .returned (.bool true) ∧ Below w.heap.size w w' := by
  have hgr := hide fun w1 (hb : Below w.heap.size w w1) => great_any p win v w1 (h.below hb hb.size)
  cases hg : greatB p with
  | true =>
    rw [hg] at hgr
    obtain ⟨A, cap, rfl⟩ := h.len
    clear h hg
    go_enter Tryz.func3, Tryz.ntmps3
    have hX := hide ((Below.refl w.heap.size w).alloc (Nat.le_refl _) (.cells #[.slice A p.length cap, .int .i64 win] 24))
    go_wp2_with (first | (go_at_call 5; (with_reducible refine (stayf (G := w.heap.size + 1) (hgr.out _ hX.out) (by simp)).mono ?_); rintro e w1 ⟨rfl, hc1, hf1, hz1, hB1⟩) | (go_at_call 6; (with_reducible refine (wakes14_true _).mono ?_); rintro e w2 ⟨rfl, hB2⟩))
    go_ret
    exact ⟨rfl, (hX.out.trans (hB1.out.mono (by omega))).trans (hB2.mono (by omega))⟩
  | false =>
    rw [hg] at hgr
    obtain ⟨h40, hc20⟩ := great_no hg
    have hrr := hide fun w1 (hb : Below w.heap.size w w1) => rcright_any p win v w1 (h.below hb hb.size) (fun s hs => by have := hc20 s hs; omega)
    cases hm : mayB p win with
    | false =>
      rw [hm] at hrr
      have hnw := hide fun w1 (hb : Below w.heap.size w w1) => nnew_not p win v w1 (h.below hb hb.size) hm
      have hnr := hide fun w1 => nrows_any [] (.slice none 0 0) (.slice none 0 0) 0 w1 (rdt_nil w1) ⟨_, _, _, rfl⟩ (fun s hs => by cases hs) (by simp)
      rw [zero_rows] at hnr
      obtain ⟨A, cap, rfl⟩ := h.len
      clear h hg hc20
      go_enter Tryz.func3, Tryz.ntmps3
      have hX := hide ((Below.refl w.heap.size w).alloc (Nat.le_refl _) (.cells #[.slice A p.length cap, .int .i64 win] 24))
      go_wp2_with (first
        | (go_at_call 5; (with_reducible refine (stayf (G := w.heap.size + 1) (hgr.out _ hX.out) (by simp)).mono ?_); rintro e w1 ⟨rfl, hc1, hf1, hz1, hB1⟩; have hX1 := hide (hX.out.trans (hB1.out.mono (by omega))))
        | (go_at_call 7; (with_reducible refine (stayf (G := w.heap.size + 1) (hnw.out _ hX1.out) hz1).mono ?_); rintro e w2 ⟨rfl, hc2, hf2, hz2, hB2⟩; have i2 : w.heap.size < w2.heap.size := hz2; have hX2 := hide ((hX1.out.trans (hB2.out.mono (by omega))).alloc (by have := hX1.out.size; omega) (.cells #[.slice none 0 0, .slice none 0 0, .int .i64 0] 30)))
        | (go_at_call 8; (with_reducible refine (stayf (G := w2.heap.size + 1) (hrr.out _ hX2.out) (by simp)).mono ?_); rintro e w3 ⟨rfl, hc3, hf3, hz3, hB3⟩; have hX3 := hide (hX2.out.trans (hB3.out.mono (by omega))))
        | (go_at_call 9; (with_reducible refine (hnr.out _).mono ?_); rintro e w4 ⟨⟨v4, us4, rfl, ho4⟩, hB4⟩; obtain ⟨A4, k4, hv4⟩ := own_form ho4.row; subst hv4; have hX4 := hide (hX3.out.trans (hB4.mono hX3.out.size)))
        | (go_at_call 6; (with_reducible refine (wakes14_true _).mono ?_); rintro e w5 ⟨rfl, hB5⟩))
      go_ret
      exact ⟨rfl, hX4.out.trans (hB5.mono hX4.out.size)⟩
    | true =>
      rw [hm] at hrr
      have hF := hide (may_plain hm).facts
      have hnw := hide fun w1 (hb : Below w.heap.size w w1) => nnew_any p win v w1 (h.below hb hb.size) hm
      have hrf := hide fun w1 (hb : Below w.heap.size w w1) => rrows_any p win v w1 (h.below hb hb.size) hm (fun s hs => by have := hc20 s hs; omega)
      obtain ⟨A, cap, rfl⟩ := h.len
      replace hm := hide hm
      clear h hg hc20
      generalize newL p = L at *
      generalize afterL p = Af at *
      go_enter Tryz.func3, Tryz.ntmps3
      have hX := hide ((Below.refl w.heap.size w).alloc (Nat.le_refl _) (.cells #[.slice A p.length cap, .int .i64 win] 24))
      go_upto_region 6 with (first
        | (go_at_call 5; (with_reducible refine (stayf (G := w.heap.size + 1) (hgr.out _ hX.out) (by simp)).mono ?_); rintro e w1 ⟨rfl, hc1, hf1, hz1, hB1⟩; have hX1 := hide (hX.out.trans (hB1.out.mono (by omega))); have x0 := hc1 w.heap.size 0 (by omega); have x1 := hc1 w.heap.size 1 (by omega); simp at x0 x1)
        | (go_at_call 7; (with_reducible refine (hnw.out _ hX1.out).mono ?_); rintro e w2 ⟨⟨lv, av, rfl, hrt, hra⟩, hB2⟩; obtain ⟨Al, cl, hvl⟩ := hrt.len_form; obtain ⟨Aa, ca, hva⟩ := rd_form hra; subst hvl hva; have i2 : w.heap.size < w2.heap.size := Nat.lt_of_lt_of_le hz1 hB2.size; have y0 := (hB2.cell (p := ⟨w.heap.size, 0, none⟩) hz1).trans x0; have y1 := (hB2.cell (p := ⟨w.heap.size, 1, none⟩) hz1).trans x1; have hX2 := hide ((hX1.out.trans (hB2.mono hX1.out.size)).alloc (by have := hX1.out.size; have := hB2.size; omega) (.cells #[.slice Al L.length cl, .slice Aa Af.length ca, .int .i64 win] 30)); replace hrt := hide hrt; replace hra := hide hra; replace hB2 := hide hB2)
        | (go_at_call 8; (with_reducible refine (stayf (G := w2.heap.size + 1) (hrr.out _ hX2.out) (by simp)).mono ?_); rintro e w3 ⟨rfl, hc3, hf3, hz3, hB3⟩; have hX3 := hide (hX2.out.trans (hB3.out.mono (by omega)))))
      obtain ⟨ba, hba⟩ : ∃ ba, w2.heap.size = ba := ⟨_, rfl⟩
      have hbx2 : Blk (w2.alloc (.cells #[.slice Al L.length cl, .slice Aa Af.length ca, .int .i64 win] 30)) w2.heap.size 30 #[.slice Al L.length cl, .slice Aa Af.length ca, .int .i64 win] := Blk.new_ rfl _ _
      have hbx3 := hbx2.below hB3.out (Nat.lt_succ_self _)
      have hw23 : Below w2.heap.size w2 w3 := ((Below.refl w2.heap.size w2).alloc (Nat.le_refl _) _).trans (hB3.out.mono (by omega))
      have hrt3 := RdT.below hrt.out hw23 hw23.size
      have hra3 := RdI.below hra.out hw23 hw23.size
      have p0 := (hw23.cell (p := ⟨w.heap.size, 0, none⟩) i2).trans y0
      have p1 := (hw23.cell (p := ⟨w.heap.size, 1, none⟩) i2).trans y1
      have e0 := hbx3.cell 0
      have e1 := hbx3.cell 1
      have e2 := hbx3.cell 2
      simp at e0 e1 e2
      have l1 := hbx3.lt
      have l2 : w.heap.size < w3.heap.size := by omega
      rw [hba] at hbx3 e0 e1 e2 l1
      rw [hba]
      have hla : ∃ A n c, (Value.slice Aa Af.length ca) = .slice A n c := ⟨_, _, _, rfl⟩
      have hsm := facts_small hF.out
      have hL9 := hF.out.len
      have hQ : Hid (nrowsF L = refRows p) := hide (by rw [nrowsF, if_pos hF.out.auto, hF.out.rows, hF.out.ref])
      have k1 := hide fun w1 (hb : Below w3.heap.size w3 w1) => rright14_any L (.slice Al L.length cl) (.slice Aa Af.length ca) win w1 (hrt3.below hb hb.size) hla hsm
      rw [hF.out.auto] at k1
      have k2 := hide fun w1 (hb : Below w3.heap.size w3 w1) => nrows_any L (.slice Al L.length cl) (.slice Aa Af.length ca) win w1 (hrt3.below hb hb.size) hla hsm (by omega)
      rw [hQ.out] at k2
      have k3 := hide fun w1 (hb : Below w3.heap.size w3 w1) => hrf.out w1 (hX3.out.trans (hb.mono hX3.out.size))
      have k4 := hide fun (i : Nat) w1 (hb : Below w3.heap.size w3 w1) => nrow_any L (.slice Al L.length cl) (.slice Aa Af.length ca) win i w1 (hrt3.below hb hb.size) hla hsm (by omega)
      have hrt3h := hide hrt3
      generalize refRows p = Q at *
      clear hgr hX hX1 hc1 hf1 hz1 hB1 x0 x1 hrt hra hB2 y0 y1 hX2 hrr hc3 hf3 hz3 hB3 hbx2 hnw hrf hw23 hrt3 hra3 hba hQ i2
      refine wp_region_tab w3.heap.size (Nat.le_refl _) [(4, valF (.bool true)), (9, llF w3.heap.size Q), (11, llF w3.heap.size Q), (12, valF (.bool true))] [(12, [9, 11])] (by kernel_rfl) (by kernel_rfl) ?tabok ?_
      case tabok =>
        intro p hp
        simp only [List.mem_cons, List.not_mem_nil, or_false] at hp
        rcases hp with rfl | rfl | rfl | rfl <;> first | exact valF_ok _ | exact llF_ok _ _
      repeat (refine wpRel_one rfl (fun K hK => ?_); go_simp; refine hK _ _ ?_; clear hK K)
      refine wpTab_eff (valF (.bool true)) rfl (fun K hK => ?_)
      go_simp
      refine ⟨fun n => tab_val (Nat.le_refl _) (fun w1 hb hz => k1.out w1 hb), ?_⟩
      refine hK _ _ ?_
      clear hK K
      repeat (refine wpRel_one rfl (fun K hK => ?_); go_simp; refine hK _ _ ?_; clear hK K)
      refine wpTab_eff (llF w3.heap.size Q) rfl (fun K hK => ?_)
      go_simp
      refine ⟨fun n => tab_ll (Nat.le_refl _) (fun w1 hb hz => k2.out w1 hb), fun v9 hv => ?_⟩
      clear hv
      refine hK _ _ ?_
      clear hK K
      repeat (refine wpRel_one rfl (fun K hK => ?_); go_simp; refine hK _ _ ?_; clear hK K)
      refine wpTab_eff (llF w3.heap.size Q) rfl (fun K hK => ?_)
      go_simp
      refine ⟨fun n => tab_ll (Nat.le_refl _) (fun w1 hb hz => k3.out w1 hb), fun v11 hv => ?_⟩
      clear hv
      refine hK _ _ ?_
      clear hK K
      refine wpTab_eff (valF (.bool true)) rfl (fun K hK => ?_)
      go_simp
      refine ⟨fun n ho1 ho2 => tab_val_at (Nat.le_refl _) (rowed_eq ho2 ho1), ?_⟩
      refine hK _ _ ?_
      clear hK K
      repeat (refine wpRel_one rfl (fun K hK => ?_); go_simp; refine hK _ _ ?_; clear hK K)
      refine wpRel_nil ?_
      rintro w7 ⟨n7, rfl⟩ hΓ
      clear hΓ k1 k2 k3
      have hB7 := grown_below w3.heap.size w3 n7
      generalize grown w3.heap.size w3 n7 = w7 at *
      have hz7 := hB7.size
      have f0 := (hB7.cell (p := ⟨ba, 0, none⟩) l1).trans e0
      have f1 := (hB7.cell (p := ⟨ba, 1, none⟩) l1).trans e1
      have f2 := (hB7.cell (p := ⟨ba, 2, none⟩) l1).trans e2
      obtain ⟨A', cap', b, off, ev, -, -, h4, h5⟩ := hrt3h.out
      injection ev with ev1 _ ev3
      subst ev1 ev3
      have hb3 : 0 < L.length → b < w3.heap.size := fun h => (h4 h).2
      have hAl : 0 < L.length → Al = some ⟨b, off, none⟩ := fun h => (h4 h).1
      replace hrt3h := hide hrt3h
      replace h5 := hide h5
      replace hAl := hide hAl
      clear h4 p0 p1 e0 e1 e2 hsm
      go_wp2
      go_loopw [5] (fun i wr => ∃ k : Nat, k ≤ L.length ∧ i = .int .i64 k ∧ Below w7.heap.size w7 wr) (fun i _ => L.length - (intOf i).toNat)
      case atStart => exact ⟨0, by omega, rfl, Below.refl _ _⟩
      case round =>
        obtain ⟨k, hk, rfl, hB⟩ := hrel
        have hzr := hB.size
        have l3 : ba < w7.heap.size := by omega
        have g0 := (hB.cell (p := ⟨ba, 0, none⟩) l3).trans f0
        have g1 := (hB.cell (p := ⟨ba, 1, none⟩) l3).trans f1
        have g2 := (hB.cell (p := ⟨ba, 2, none⟩) l3).trans f2
        have hwk : IntKind.i64.wrap ((k : Int) + 1) = (k : Int) + 1 := IntWalk.i64_in _ (by omega)
        by_cases hlt : k < L.length
        · obtain rfl := hAl.out (by omega)
          have hb := hb3 (by omega)
          obtain ⟨s, hs⟩ : ∃ s, L[k]? = some s := ⟨_, List.getElem?_eq_getElem hlt⟩
          obtain ⟨cs, ⟨gv, rfl, -⟩, hat⟩ := h5.out k s hs
          have h3r : Below w3.heap.size w3 wr := hB7.trans (hB.mono hz7)
          have hst : stRow L k = wayL L k := by rw [stRow, if_pos ⟨by omega, by omega, hF.out.auto⟩]
          have hlong := hF.out.long k s hs
          have hlast := hF.out.step k s hs
          have hpl := (hF.out.steps k s hs).2.2.2.1
          have hplm := (hF.out.steps k s hs).2.2.2.2.1
          have hap := hide fun (m : Nat) (hm : m < k) => hF.out.apart k m hlt hm
          have hsm := hide fun (m : Nat) (hm : m < k) => show stRow L m = wayL L m by rw [stRow, if_pos ⟨by omega, by omega, hF.out.auto⟩]
          have hc0 := (hat.below h3r hb).c6.1
          have hc1 := (hat.below h3r hb).c6.2.1
          have k4k := hide (k4.out k wr h3r)
          rw [hst] at k4k
          have hbr : b < wr.heap.size := by omega
          have hki : (k : Int) < L.length := by omega
          obtain ⟨st, pl, sr, gs, ad, la⟩ := s
          simp only at hlong hlast hpl hplm hc0 hc1
          clear hat hs hst
          obtain ⟨R, hR⟩ : ∃ R, wayL L k = R := ⟨_, rfl⟩
          rw [hR] at hlong hlast k4k
          simp only [hR] at hap
          clear hR
          replace h3r := hide h3r
          go_upto_region 12 with (go_at_call 13; (with_reducible refine k4k.out.mono ?_); rintro e w8 ⟨⟨v8, rfl, ho8⟩, hB8⟩; obtain ⟨A8, k8, hv8⟩ := ho8.form; subst hv8)
          obtain ⟨m, hm1⟩ : ∃ m, R.length = m + 1 := ⟨R.length - 1, by omega⟩
          have hRne : R ≠ [] := by rintro rfl; simp at hm1
          obtain ⟨g8, k8', e8, hg81, hg82⟩ := ho8.form1 hRne
          injection e8 with e81 _ e82
          subst e81 e82
          have hlc : w8.cell? ⟨g8, m, none⟩ = some (.int .i64 st) := by
            have := World.ownsRow.cells (g := g8) ho8 rfl m (.int .i64 st) (by
              rw [← hlast, List.getLastD_eq_getLast?, List.getLast?_eq_getElem?]
              simp [hm1])
            rw [Addr.add_lit] at this
            simpa using this
          have hz8 := hB8.size
          have d0 := (hB8.cell (p := ⟨ba, 0, none⟩) (by show ba < wr.heap.size; omega)).trans g0
          have d1 := (hB8.cell (p := ⟨ba, 1, none⟩) (by show ba < wr.heap.size; omega)).trans g1
          have d2 := (hB8.cell (p := ⟨ba, 2, none⟩) (by show ba < wr.heap.size; omega)).trans g2
          have dc0 := (hB8.cell (p := ⟨b, off + k * 6, none⟩) hbr).trans hc0
          have dc1 := (hB8.cell (p := ⟨b, off + k * 6 + 1, none⟩) hbr).trans hc1
          have hw1 : IntKind.i64.wrap (pl + 1) = R.length := by rw [← hlong]; exact IntWalk.i64_in _ (by omega)
          have hw2 : IntKind.i64.wrap ((R.length : Int) - 1) = m := by rw [IntWalk.i64_in _ (by omega)]; omega
          have hml : (m : Int) < R.length := by omega
          have hmn : m < R.length := by omega
          have hrd8 := hide ho8.rd
          have hB38 : Hid (Below w3.heap.size w3 w8) := hide (h3r.out.trans (hB8.mono h3r.out.size))
          have j1 : ba < w8.heap.size := by omega
          have j2 : b < w8.heap.size := by omega
          replace hm1 := hide hm1
          replace hB8 := hide hB8
          clear ho8 g0 g1 g2 hc0 hc1 hlast hRne hlong k4k
          go_quiet (fail)
          replace hB38 := hide (jdrewN hB38.out nq)
          replace hrd8 : Hid (RdI (w8.drewN nq) (w8.drewN nq).heap.size (.slice (some ⟨g8, 0, none⟩) R.length k8) R) := hrd8
          replace hB8 := hide (jdrewN hB8.out nq)
          replace d0 : (w8.drewN nq).cell? ⟨ba, 0, none⟩ = some (.slice (some ⟨b, off, none⟩) L.length cl) := d0
          replace d1 : (w8.drewN nq).cell? ⟨ba, 1, none⟩ = some (.slice Aa Af.length ca) := d1
          replace d2 : (w8.drewN nq).cell? ⟨ba, 2, none⟩ = some (.int .i64 win) := d2
          replace j1 : ba < (w8.drewN nq).heap.size := j1
          replace hz8 : wr.heap.size ≤ (w8.drewN nq).heap.size := hz8
          clear dc0 dc1 hlc
          generalize w8.drewN nq = w9 at *
          go_wp2
          go_loopw [7] (fun i wi => ∃ m : Nat, m ≤ k ∧ i = .int .i64 m ∧ Below w9.heap.size w9 wi) (fun i _ => k - (intOf i).toNat)
          case atStart => exact ⟨0, by omega, rfl, Below.refl _ _⟩
          case round =>
            obtain ⟨m2, hm2, rfl, hBi⟩ := hrel
            have q0 := (hBi.cell (p := ⟨ba, 0, none⟩) j1).trans d0
            have q1 := (hBi.cell (p := ⟨ba, 1, none⟩) j1).trans d1
            have q2 := (hBi.cell (p := ⟨ba, 2, none⟩) j1).trans d2
            have hwm : IntKind.i64.wrap ((m2 : Int) + 1) = (m2 : Int) + 1 := IntWalk.i64_in _ (by omega)
            have hzi := hBi.size
            by_cases hlm : m2 < k
            · have h3i := hide (hB38.out.trans (hBi.mono hB38.out.size))
              have k4m := hide (k4.out m2 _ h3i.out)
              rw [hsm.out m2 hlm] at k4m
              have hne := hide (hap.out m2 hlm)
              generalize wayL L m2 = R2 at *
              have hmi : (m2 : Int) < k := by omega
              have hrdi := hide (RdI.below hrd8.out hBi hzi)
              go_wp2_with (first
                | (go_at_call 13; (with_reducible refine k4m.out.mono ?_); rintro e wj ⟨⟨vj, rfl, hoj⟩, hBj⟩; have hij := hide (ints_any R2 R vj _ wj hoj.rd (RdI.below hrdi.out hBj hBj.size)); rw [show decide (R2 = R) = false by simpa using hne.out] at hij)
                | (go_at_call 14; (with_reducible refine hij.out.mono ?_); rintro e wk ⟨rfl, hBk⟩))
              exact ⟨⟨m2 + 1, by omega, rfl, hBi.trans ((hBj.trans (hBk.mono hBj.size)).mono hzi)⟩, by simp [intOf]; omega⟩
            · obtain rfl : m2 = k := by omega
              have hmi : ¬ ((m2 : Int) < m2) := by omega
              go_wp2
              exact ⟨⟨m2 + 1, by omega, by simp, hB.trans ((hB8.out.trans (hBi.mono hz8)).mono hzr)⟩, by simp [intOf]; omega⟩
        · obtain rfl : k = L.length := by omega
          have hki : ¬ ((L.length : Int) < L.length) := by omega
          have hXr := hide (hX3.out.trans ((hB7.trans (hB.mono hz7)).mono hX3.out.size))
          go_wp2_with (go_at_call 6; (with_reducible refine (wakes14_true _).mono ?_); rintro e w9 ⟨rfl, hB9⟩)
          go_ret
          exact ⟨rfl, hXr.out.trans (hB9.mono hXr.out.size)⟩
end Go.Proofs.YtmmbblfmhcegcaaGreat

namespace Go.Proofs.YtmmbblfmhcegcaaGreat
open Go.ChangeShapes Go.WideShapes Go.ChangeAt Go.RowKit

section
variable {H : Type} {enc : TypeId × Value → H} {P : Program}
theorem trodAll_stays (hl : laidOutB P = true) {W W' : World} {sp' : Nat → Bool} : ∀ {ts : List TypeId} {vs : List Value} {ds : List (DataW H)} {ps : List MemPlace}, (∀ t ∈ ts, P.readableRec t = true ∧ t < P.types.size) →
    DataW.TrodAll enc P W 0 (fun _ => true) true ts vs ds ps → (∀ p ∈ ps, W.sameAt W' p) → (∀ p ∈ ps, sp' p.block = true) → DataW.TrodAll enc P W' 0 sp' true ts vs ds ps := by
  intro ts
  induction ts with
  | nil =>
    intro vs ds ps _ h _ _
    obtain ⟨rfl, rfl, rfl⟩ := trodAll_nil h
    exact trodAll_mk0
  | cons t ts ih =>
    intro vs ds ps ht h hs hp
    obtain ⟨v, vs', d, ds', p, q, rfl, rfl, rfl, h0, r0⟩ := trodAll_cons h
    exact trodAll_cons_mk (WideElems.Trod_stays hl (ht t (by simp)).1 (ht t (by simp)).2 h0 (fun x hx => hs x (by simp [hx])) (fun x hx => hp x (by simp [hx])))
      (ih (fun u hu => ht u (by simp [hu])) r0 (fun x hx => hs x (by simp [hx])) (fun x hx => hp x (by simp [hx])))

theorem post_of_below {f : Func} {s : ChangeSpec} {apart fresh handsOn again : Bool} {W W' : World} {args : Array Value} {v : Value} {ds gs : List (DataW H)} {before pa pv : List MemPlace}
    (hW : DataW.Whole enc P f.params.toList s.vars apart W args.toList ds gs before)
    (hres : ∀ (b : Nat) (sp : Nat → Bool) (hd : Bool), DataW.TrodAll enc P W' b sp hd f.resultTypes.toList (v.resultList f.resultTypes.size) (s.fn H (ds ++ gs)).results [])
    (hargs : ∀ sp : Nat → Bool, (∀ p ∈ before, sp p.block = true) → DataW.TrodAll enc P W' 0 sp true f.params.toList args.toList (s.fn H (ds ++ gs)).args pa)
    (hvars : ∀ sp : Nat → Bool, (∀ p ∈ before, sp p.block = true) → DataW.TrodVars enc P W' sp s.vars (s.fn H (ds ++ gs)).vars pv)
    (hps : before = pa ++ pv) (hb : Below W.heap.size W W')
    (hok : ∀ (j : Nat) (t : TypeId) (r : Value), f.resultTypes[j]? = some t → (v.resultList f.resultTypes.size)[j]? = some r → Value.okWide P W' .any 0 t r) :
    s.post enc P f apart fresh handsOn again W args v W' := by
  have hlt : ∀ p ∈ before, p.block < W.heap.size := fun p hp => hW.lt p hp
  have hold : ∀ p ∈ before, (fun b => decide (b < W.heap.size)) p.block = true := fun p hp => by simpa using hlt p hp
  refine ⟨ds, gs, before, [], pa, pv, hW, hres _ _ _, hargs _ hold, hvars _ hold, World.keptBut_mono (fun p hp => ⟨hp, ?_⟩) (hb.frame (· ∈ before)), fun _ => ?_⟩
  · rw [hps, List.mem_append] at hp
    exact Or.inr hp
  · obtain ⟨_, _, _, _, _, hz, hn⟩ := hW
    refine ⟨hok, _, _, ([] ++ pa) ++ pv, ⟨[] ++ pa, pv, trodAll_append (hargs _ (fun _ _ => rfl)) (hres _ _ _), hvars _ (fun _ _ => rfl), rfl, ?_, ?_⟩, ?_⟩
    · intro b off hp
      have hin : MemPlace.cell b off ∈ before := by rw [hps]; simpa using hp
      rw [hb.frozen (hlt _ hin)]
      exact hz b off hin
    · intro ha
      have := hn ha
      rw [hps] at this
      simpa using this
    · intro p hp _
      rw [hps]
      simpa using hp

/-- What a law's walk gives is what its row asks. -/
theorem law_post {f : FuncId} {fn : Func} {s : ChangeSpec} {apart fresh handsOn again : Bool} {tb : TypeId} {W : World} {args : Array Value} {ds gs : List (DataW H)} {before : List MemPlace}
    (hvars : s.vars = []) (hres : fn.resultTypes = #[tb]) (htb : P.underlying tb = some .bool) (hl : laidOutB P = true) (hts : fn.params.toList.all (fun t => P.readableRec t && decide (t < P.types.size)) = true)
    (hspec : ∀ ds : List (DataW H), ds.length = fn.params.toList.length → (s.fn H ds).results = [.lit (.bool true)] ∧ (s.fn H ds).args = ds ∧ (s.fn H ds).vars = [])
    (hW : DataW.Whole enc P fn.params.toList s.vars apart W args.toList ds gs before)
    (walk : Calls P f args W fun e w' => e = .returned (.bool true) ∧ Below W.heap.size W w') :
    Calls P f args W fun e W' => ∃ v, e = .returned v ∧ s.post enc P fn apart fresh handsOn again W args v W' := by
  refine walk.mono fun e W' ⟨he, hb⟩ => ?_
  subst he
  have hW' := hW
  have hlt : ∀ p ∈ before, p.block < W.heap.size := fun p hp => hW.lt p hp
  obtain ⟨p, q, hA, hV, rfl, hfz, hnd⟩ := hW
  rw [hvars] at hV
  obtain ⟨rfl, rfl⟩ := trodVars_none hV
  have hlen : ds.length = fn.params.toList.length := by
    have : ∀ {ts : List TypeId} {vs : List Value} {ds : List (DataW H)} {ps : List MemPlace}, DataW.TrodAll enc P W 0 (fun _ => true) true ts vs ds ps → ds.length = ts.length := by
      intro ts
      induction ts with
      | nil => intro vs ds ps h; obtain ⟨rfl, rfl, rfl⟩ := trodAll_nil h; rfl
      | cons t ts ih => intro vs ds ps h; obtain ⟨v, vs', d, ds', p, q, rfl, rfl, rfl, h0, r0⟩ := trodAll_cons h; simp [ih r0]
    exact this hA
  obtain ⟨s1, s2, s3⟩ := hspec ds hlen
  simp only [List.append_nil] at hW' hlt
  have hts' : ∀ t ∈ fn.params.toList, P.readableRec t = true ∧ t < P.types.size := fun t ht => by
    have := List.all_eq_true.1 hts t ht
    simpa using this
  refine ⟨_, rfl, post_of_below (pa := p) (pv := []) (v := .bool true) (by simpa using hW') ?_ ?_ ?_ (by simp) hb ?_⟩
  · intro b sp hd
    rw [List.append_nil, s1, hres]
    exact trodAll_mk1 (shut_bool htb true)
  · intro sp hsp
    rw [List.append_nil, s2]
    exact trodAll_stays hl hts' hA (fun x hx => hb.same (hlt x hx)) (fun x hx => hsp x (by simp [hx]))
  · intro sp hsp
    rw [List.append_nil, s3, hvars]
    rfl
  · exact ok_one hres rfl (okWide_bool_mk htb true)
end
end Go.Proofs.YtmmbblfmhcegcaaGreat
