/- The law TreeOwn: its walk. -/
import Derived.Test.YtidddeobachjgaaWkT
import Derived.Test.YtidddeobachjgaaOwA
import Derived.Test.YtidddeobachjgaaLibQ
import Derived.Test.YtidddeobachjgaaTrI
import Derived.Test.YtidddeobachjgaaTrH
import Derived.StillTailTactics
import Derived.Deep.CutRange
import Derived.BigRegion
namespace Go.Proofs.Ytidddeobachjgaa
open Go.RowKit
attribute [local go_sem] grown_cell grown_frozen

theorem two_new (W : World) (t u : TypeId) (c d : Array Value) : Below W.heap.size W ((W.alloc (.cells c t)).alloc (.cells d u)).drew ∧ Blk ((W.alloc (.cells c t)).alloc (.cells d u)).drew W.heap.size t c ∧ Blk ((W.alloc (.cells c t)).alloc (.cells d u)).drew (W.heap.size + 1) u d := by
  have hb : Below W.heap.size W ((W.alloc (.cells c t)).alloc (.cells d u)) := ((Below.refl W.heap.size W).alloc (Nat.le_refl _) _).alloc (by simp) _
  have h1 : Blk ((W.alloc (.cells c t)).alloc (.cells d u)) W.heap.size t c := (Blk.new_ rfl _ _).alloc _
  have h2 : Blk ((W.alloc (.cells c t)).alloc (.cells d u)) (W.heap.size + 1) u d := Blk.new_ (by simp) _ _
  generalize (W.alloc (.cells c t)).alloc (.cells d u) = V at *
  exact ⟨⟨hb.os, hb.tape, hb.output, hb.size, hb.block⟩, h1, h2⟩

set_option maxRecDepth 100000 in
set_option maxHeartbeats 16000000 in
theorem treeOwn_walk (p q : List Sp) (wp wq : Int) (v u : Value) (w : World) (h : RdS w w.heap.size v p) (hq : RdS w w.heap.size u q) :
    Calls Try.prog 6 #[ptV v wp, ptV u wq] w fun e w' => e = .returned (.bool true) ∧ Below w.heap.size w w' := by
  have hgr := hide fun w1 (hb : Below w.heap.size w w1) => great_any p wp v w1 (h.below hb hb.size)
  have hgq := hide fun w1 (hb : Below w.heap.size w w1) => great_any q wq u w1 (hq.below hb hb.size)
  have hsz := RdL.lenle h
  have hszq := RdL.lenle hq
  cases hg : greatB p with
  | true =>
    rw [hg] at hgr
    obtain ⟨A, cap, rfl⟩ := h.len
    obtain ⟨Aq, capq, rfl⟩ := hq.len
    clear h hq hgq hg
    go_enter Try.func6, Try.ntmps6
    have hX := hide (((Below.refl w.heap.size w).alloc (Nat.le_refl _) (.cells #[.slice A p.length cap, .int .i64 wp] 24)).alloc (by simp) (.cells #[.slice Aq q.length capq, .int .i64 wq] 24))
    go_wp2_with (first | (go_at_call 12; (with_reducible refine (stayf (G := w.heap.size + 2) (hgr.out _ hX.out) (by simp)).mono ?_); rintro e w1 ⟨rfl, hc1, hf1, hz1, hB1⟩) | (go_at_call 14; (with_reducible refine (wakes08_true _).mono ?_); rintro e w2 ⟨rfl, hB2⟩))
    go_ret
    exact ⟨rfl, (hX.out.trans (hB1.out.mono (by omega))).trans (hB2.mono (by omega))⟩
  | false =>
    rw [hg] at hgr
    cases hg2 : greatB q with
    | true =>
      rw [hg2] at hgq
      obtain ⟨A, cap, rfl⟩ := h.len
      obtain ⟨Aq, capq, rfl⟩ := hq.len
      clear h hq hg2 hg
      go_enter Try.func6, Try.ntmps6
      have hX := hide (((Below.refl w.heap.size w).alloc (Nat.le_refl _) (.cells #[.slice A p.length cap, .int .i64 wp] 24)).alloc (by simp) (.cells #[.slice Aq q.length capq, .int .i64 wq] 24))
      go_wp2_with (first | (go_at_call 12; (with_reducible refine (stayf (G := w.heap.size + 2) (hgr.out _ hX.out) (by simp)).mono ?_); rintro e w1 ⟨rfl, hc1, hf1, hz1, hB1⟩; have hX1 := hide (hX.out.trans (hB1.out.mono (by omega)))) | (go_at_call 12; (with_reducible refine (stayf (G := w.heap.size + 2) (hgq.out _ hX1.out) hz1).mono ?_); rintro e w2 ⟨rfl, hc2, hf2', hz2, hB2⟩; have hX2 := hide (hX1.out.trans (hB2.out.mono (by omega)))) | (go_at_call 14; (with_reducible refine (wakes08_true _).mono ?_); rintro e w3 ⟨rfl, hB3⟩))
      go_ret
      exact ⟨rfl, hX2.out.trans (hB3.mono hX2.out.size)⟩
    | false =>
      rw [hg2] at hgq
      obtain ⟨h40, hc20⟩ := great_no hg
      clear hg hg2
      have hown := hide fun w1 (hb : Below w.heap.size w w1) => rown_any p wp v w1 (h.below hb hb.size) (by omega) (fun s hs => by have := hc20 s hs; omega)
      have hsm := hide fun w1 (hb : Below w.heap.size w w1) => h.below hb hb.size
      have hsq := hide fun w1 (hb : Below w.heap.size w w1) => hq.below hb hb.size
      obtain ⟨A, cap, rfl⟩ := h.len
      obtain ⟨Aq, capq, rfl⟩ := hq.len
      replace hc20 := hide hc20
      clear h hq
      go_enter Try.func6, Try.ntmps6
      have hX := hide (((Below.refl w.heap.size w).alloc (Nat.le_refl _) (.cells #[.slice A p.length cap, .int .i64 wp] 24)).alloc (by simp) (.cells #[.slice Aq q.length capq, .int .i64 wq] 24))
      go_upto_region 3 with (first | (go_at_call 12; (with_reducible refine (stayf (G := w.heap.size + 2) (hgr.out _ hX.out) (by simp)).mono ?_); rintro e w1 ⟨rfl, hc1, hf1, hz1, hB1⟩; have hX1 := hide (hX.out.trans (hB1.out.mono (by omega)))) | (go_at_call 12; (with_reducible refine (stayf (G := w.heap.size + 2) (hgq.out _ hX1.out) hz1).mono ?_); rintro e w2 ⟨rfl, hc2, hf2', hz2, hB2⟩; have hX2 := hide (hX1.out.trans (hB2.out.mono (by omega)))))
      have e0 : w2.cell? ⟨w.heap.size, 0, none⟩ = some (.slice A p.length cap) := by rw [hc2 _ _ (by omega), hc1 _ _ (by omega)]; simp
      have e1 : w2.cell? ⟨w.heap.size, 1, none⟩ = some (.int .i64 wp) := by rw [hc2 _ _ (by omega), hc1 _ _ (by omega)]; simp
      have e2 : w2.cell? ⟨w.heap.size + 1, 0, none⟩ = some (.slice Aq q.length capq) := by rw [hc2 _ _ (by omega), hc1 _ _ (by omega)]; simp
      have e3 : w2.cell? ⟨w.heap.size + 1, 1, none⟩ = some (.int .i64 wq) := by rw [hc2 _ _ (by omega), hc1 _ _ (by omega)]; simp
      have hz : w.heap.size + 1 < w2.heap.size := hz2
      replace hX2 := hX2.out
      clear hc1 hc2 hf1 hf2' hB1 hB2 hX1 hX hz1 hz2 hgr hgq
      have hX2h := hide hX2
      go_upto_region 4 with (go_at_call 15; (with_reducible refine (hown.out _ hX2).mono ?_); rintro e5 w5 ⟨⟨sv5, ps, rfl, hP5, hps⟩, hB5⟩; obtain ⟨A5, c5, hsv⟩ := own_form hP5.row; subst hsv; have hpl : ps.length = p.length := (by rw [← hps]; simp); rw [hpl] at hP5 ⊢; replace hpl := hide hpl; replace hps := hide hps; replace hP5 := hide hP5)
      obtain ⟨V3, hV3⟩ : ∃ V3, w5.alloc (.cells #[.slice A5 p.length c5, .int .i64 wp] 24) = V3 := ⟨_, rfl⟩
      rw [hV3]
      have hbx : Blk V3 w5.heap.size 24 #[.slice A5 p.length c5, .int .i64 wp] := by rw [← hV3]; exact Blk.new_ rfl _ _
      have hP : OwP V3 w2.heap.size (.slice A5 p.length c5) ps := by rw [← hV3]; exact hP5.out.alloc_ _
      have hBV : Below w2.heap.size w2 V3 := by rw [← hV3]; exact hB5.alloc hB5.size _
      have hz3 : V3.heap.size = w5.heap.size + 1 := by rw [← hV3]; simp
      have hlt1 : ∀ g, A5 = some ⟨g, 0, none⟩ → w2.heap.size ≤ g ∧ g < w5.heap.size := fun g e => hP5.out.ownlt g (by rw [e]; rfl)
      have hlt2 : ∀ y ∈ ps, ∀ g, y.2.ownBlock = some g → w2.heap.size ≤ g ∧ g < w5.heap.size := fun y hy g e => hP5.out.cmplt hy g e
      have hzz := hB5.size
      clear hV3 hP5 hB5
      replace e0 := (hBV.cell (p := ⟨w.heap.size, 0, none⟩) (by show w.heap.size < _; omega)).trans e0
      replace e1 := (hBV.cell (p := ⟨w.heap.size, 1, none⟩) (by show w.heap.size < _; omega)).trans e1
      replace e2 := (hBV.cell (p := ⟨w.heap.size + 1, 0, none⟩) hz).trans e2
      replace e3 := (hBV.cell (p := ⟨w.heap.size + 1, 1, none⟩) hz).trans e3
      generalize w5.heap.size = X at *
      have hto := own_any p wp (.slice A5 p.length c5) V3 (by have := hP.rd; rwa [hps.out] at this) (by omega) (fun s hs => by have := hc20.out s hs; omega)
      have b0 := hbx.cell 0
      have b1 := hbx.cell 1
      simp at b0 b1
      replace hbx := hide hbx
      replace hP := hide hP
      replace hBV := hide hBV
      replace hto := hide hto
      replace hlt1 := hide hlt1
      replace hlt2 := hide hlt2
      clear hown
      go_upto_region 6 with (go_at_call 24; (with_reducible refine hto.out.mono ?_); rintro e6 w6 ⟨⟨so, po, rfl, hPo, hpo⟩, hB6⟩; obtain ⟨Ao, co, hso⟩ := own_form hPo.row; subst hso; replace hPo := hide hPo; replace hpo := hide hpo; replace hB6 := hide hB6)
      obtain ⟨V4, hV4⟩ : ∃ V4, w6.alloc (.cells #[.slice Ao po.length co, .int .i64 wp] 24) = V4 := ⟨_, rfl⟩
      rw [hV4]
      have hbo : Blk V4 w6.heap.size 24 #[.slice Ao po.length co, .int .i64 wp] := by rw [← hV4]; exact Blk.new_ rfl _ _
      have hPo4 : OwP V4 V3.heap.size (.slice Ao po.length co) po := by rw [← hV4]; exact hPo.out.alloc_ _
      have hP4 : OwP V4 w2.heap.size (.slice A5 p.length c5) ps := by rw [← hV4]; exact (hP.out.below hB6.out (Nat.le_refl _)).alloc_ _
      have hB4 : Below V3.heap.size V3 V4 := by rw [← hV4]; exact hB6.out.alloc hB6.out.size _
      have hbx4 : Blk V4 X 24 #[.slice A5 p.length c5, .int .i64 wp] := hbx.out.below hB4 (by omega)
      have hz6 : V3.heap.size ≤ w6.heap.size := hB6.out.size
      clear hV4 hPo hB6 b0 b1 hP hbx hto
      have hz3' : w.heap.size + 1 < V3.heap.size := by omega
      replace e0 := (hB4.cell (p := ⟨w.heap.size, 0, none⟩) (by show w.heap.size < _; omega)).trans e0
      replace e1 := (hB4.cell (p := ⟨w.heap.size, 1, none⟩) (by show w.heap.size < _; omega)).trans e1
      replace e2 := (hB4.cell (p := ⟨w.heap.size + 1, 0, none⟩) hz3').trans e2
      replace e3 := (hB4.cell (p := ⟨w.heap.size + 1, 1, none⟩) hz3').trans e3
      have hB24 : Below w2.heap.size w2 V4 := hBV.out.trans (hB4.mono (by omega))
      generalize w6.heap.size = O at *
      have hn40 : (p.length : Int) ≤ 40 := by omega
      replace hPo4 := hide hPo4
      replace hbo := hide hbo
      replace hbx4 := hide hbx4
      replace hB24 := hide hB24
      replace hz3 := hide hz3
      replace hz6 := hide hz6
      replace hpo := hide hpo.out
      clear hB4 hBV hz3' hX2
      go_loopw [7] (fun i wr => ∃ (k : Nat) (qs : List (Sp × Value)), k ≤ p.length ∧ i = .int .i64 k ∧ Mid w2.heap.size X V4 wr ∧ OwP wr w2.heap.size (.slice A5 p.length c5) qs ∧ Hid (qs.map (·.2) = ps.map (·.2))) (fun i _ => p.length - (intOf i).toNat)
      case atStart => exact ⟨0, ps, by omega, rfl, Mid.refl _ _ _, hP4, hide rfl⟩
      case round =>
        clear hP4
        obtain ⟨k, qs, hk, rfl, hM, hQ, hqs⟩ := hrel
        have x0 := (hbx4.out.mid hM (Nat.le_refl _)).cell 0
        have x1 := (hbx4.out.mid hM (Nat.le_refl _)).cell 1
        simp at x0 x1
        by_cases hlt : k < p.length
        · have hql : qs.length = p.length := by
            have := congrArg List.length hqs.out
            simp at this
            have := hpl.out
            omega
          obtain ⟨⟨s, u⟩, hu⟩ : ∃ y, qs[k]? = some y := ⟨_, List.getElem?_eq_getElem (by omega)⟩
          obtain ⟨g, c', cur, e, hg1, -, hat6, hgb6, hsz6, hcap⟩ := OwR.at hQ.row hu
          have eA : A5 = some ⟨g, 0, none⟩ := by injection e
          have hgX := hlt1.out g eA
          subst eA
          obtain ⟨d0, d1, d2, d3, d4, d5⟩ := hat6.c6
          have df := (blk_cell hgb6 (k * 6 + 1) (by omega)).2
          clear e hat6 hgb6 hsz6 d0 d2 d3 d4
          replace hM := hide hM
          replace hQ := hide hQ
          replace hu := hide hu
          obtain ⟨kd, hkd⟩ : ∃ kd, IntKind.i64.wrap (s.kind + 1) = kd := ⟨_, rfl⟩
          go_upto_region 8 with (fail)
          go_still_tail 12, (by kernel_rfl)
          change wpList _ _ _ _ _ wr.drew
          have d1' : wr.drew.cell? ⟨g, k * 6 + 1, none⟩ = some (.int .i64 s.kind) := d1
          have df' : wr.drew.frozen? ⟨g, k * 6 + 1, none⟩ = false := df
          have hMd := hide hM.out.drew
          have hQd := hide hQ.out.drew
          clear d1 df hM hQ x0 x1
          generalize wr.drew = W1 at *
          go_upto_region 10 with (fail)
          obtain ⟨W2, hW2⟩ : ∃ W2, W1.setCell ⟨g, k * 6 + 1, none⟩ (.int .i64 (kd)) = W2 := ⟨_, rfl⟩
          rw [hW2]
          have hM2 : Mid w2.heap.size X V4 W2 := by rw [← hW2]; exact hMd.out.set_ hgX.1 hgX.2 _
          have hQ2 : OwP W2 w2.heap.size (.slice (some ⟨g, 0, none⟩) p.length c5) (qs.set k ({ s with kind := kd }, u)) := by
            rw [← hW2]
            have := hQd.out.write (i := k) (j := 1) (s' := { s with kind := kd }) (u := .int .i64 (kd)) hu.out (by omega) (by rfl) (by rfl)
            simpa using this
          have hsnd : (qs.set k ({ s with kind := kd }, u)).map (·.2) = ps.map (·.2) := by
            rw [List.map_set, set_same (by simp [hu.out]), hqs.out]
          have hget : (qs.set k ({ s with kind := kd }, u))[k]? = some ({ s with kind := kd }, u) := List.getElem?_set_self (by omega)
          clear hW2 d1' df' hMd hQd d5
          have hup : ∀ b, u.ownBlock = some b → w2.heap.size ≤ b ∧ b < X := fun b hb => by
            have : u ∈ ps.map (·.2) := by rw [← hqs.out]; exact List.mem_map_of_mem (List.mem_of_getElem? hu.out)
            obtain ⟨y, hy, rfl⟩ := List.mem_map.1 this
            exact hlt2.out y hy b hb
          obtain ⟨Au, ku, hue⟩ := own_form (hQ2.cmps _ (List.mem_of_getElem? hget)).1
          simp only at hue
          subst hue
          clear hqs
          replace hup := hide hup
          replace hu := hide hu.out
          go_loopw [8] (fun i wv => ∃ (m : Nat) (qv : List (Sp × Value)) (t : Sp), m ≤ s.cmps.length ∧ i = .int .i64 m ∧ Mid w2.heap.size X V4 wv ∧ OwP wv w2.heap.size (.slice (some ⟨g, 0, none⟩) p.length c5) qv ∧ Hid (qv.map (·.2) = ps.map (·.2)) ∧ Hid (qv[k]? = some (t, .slice Au s.cmps.length ku)) ∧ t.cmps.length = s.cmps.length) (fun i _ => s.cmps.length - (intOf i).toNat)
          case atStart => exact ⟨0, _, _, by omega, rfl, hM2, hQ2, hide hsnd, hide hget, rfl⟩
          case round =>
            clear hM2 hQ2 hsnd hget
            obtain ⟨m, qv, t, hm, rfl, hM, hQ, hqv, hgt, htl⟩ := hrel
            have x0 := (hbx4.out.mid hM (Nat.le_refl _)).cell 0
            simp at x0
            obtain ⟨g', c', cur, e, -, -, hat6, -, -, -⟩ := OwR.at hQ.row hgt.out
            have eg : g = g' := by injection e with e1; injection e1 with e1; injection e1
            subst eg
            obtain ⟨d0, d1, d2, d3, d4, d5⟩ := hat6.c6
            clear e hat6 d0 d1 d2 d3 d4
            have hou : OwC wr w2.heap.size (.slice Au s.cmps.length ku) t.cmps := hQ.cmps _ (List.mem_of_getElem? hgt.out)
            have hsl : (s.cmps.length : Int) ≤ 9223372036854775807 := by have := RdL.lenle hou.rd; omega
            by_cases hml : m < s.cmps.length
            · obtain ⟨c, hc⟩ : ∃ c, t.cmps[m]? = some c := ⟨_, List.getElem?_eq_getElem (by omega)⟩
              obtain ⟨gc, kc, ec, hgc1, -, z0, zf, hcap2, hop⟩ := OwC.at hou hc
              have eAu : Au = some ⟨gc, 0, none⟩ := by injection ec
              have hgcX := hup.out gc (by rw [eAu]; rfl)
              subst eAu
              clear ec
              replace hou := hide hou
              replace hM := hide hM
              replace hQ := hide hQ
              replace hc := hide hc
              obtain ⟨ox, hox⟩ : ∃ ox, IntKind.u8.wrap (c.op + 1) = ox := ⟨_, rfl⟩
              have hpos8 : 0 ≤ ox := by rw [← hox, IntKind.wrap_u8]; omega
              replace hpos8 := hide hpos8
              go_upto_region 12 with (fail)
              go_still_tail 20, (by kernel_rfl)
              change wpList _ _ _ _ _ wr.drew
              have z0' : wr.drew.cell? ⟨gc, m * 9, none⟩ = some (.int .u8 c.op) := z0
              have zf' : wr.drew.frozen? ⟨gc, m * 9, none⟩ = false := zf
              have hMd := hide hM.out.drew
              have hQd := hide hQ.out.drew
              clear z0 zf hM hQ x0 d5 hou
              generalize wr.drew = W5 at *
              go_wp2
              refine ⟨⟨m + 1, _, { t with cmps := t.cmps.set m { c with op := ox } }, by omega, rfl, hMd.out.set_ hgcX.1 hgcX.2 _, hQd.out.cm_write hgt.out hc.out hpos8.out, hide ?_, hide (List.getElem?_set_self (List.getElem?_eq_some_iff.1 hgt.out).1), by simpa using htl⟩, by simp [intOf]; omega⟩
              rw [List.map_set, set_same (by simp [hgt.out]), hqv.out]
            · obtain rfl : m = s.cmps.length := by omega
              replace hou := hide hou
              replace hM := hide hM
              replace hQ := hide hQ
              go_wp2
              exact ⟨⟨k + 1, qv, by omega, rfl, hM.out, hQ.out, hqv⟩, by simp [intOf]; omega⟩
        · obtain rfl : k = p.length := by omega
          have hW := hM.below
          have ho := hide ((hPo4.out.mid hM (by have := hz3.out; omega)))
          have hbo' := hide (hbo.out.mid hM (by have := hz3.out; have := hz6.out; omega))
          replace e0 := (hW.cell (p := ⟨w.heap.size, 0, none⟩) (by show w.heap.size < _; omega)).trans e0
          replace e1 := (hW.cell (p := ⟨w.heap.size, 1, none⟩) (by show w.heap.size < _; omega)).trans e1
          replace e2 := (hW.cell (p := ⟨w.heap.size + 1, 0, none⟩) hz).trans e2
          replace e3 := (hW.cell (p := ⟨w.heap.size + 1, 1, none⟩) hz).trans e3
          have hXW := hide (hX2h.out.trans ((hB24.out.trans hW).mono hX2h.out.size))
          replace hM := hide hM
          clear hQ hqs hlt1 hlt2 hW hbo hPo4
          go_upto_region 13 with (fail)
          obtain ⟨W, rfl⟩ : ∃ W : World, W = wr := ⟨_, rfl⟩
          obtain ⟨bb, hbb⟩ : ∃ bb : Bool, Hid (bb = decide (p.length = q.length ∧ wp = wq)) := ⟨_, hide rfl⟩
          go_cut [9] from 75 to 190 (fun x' w' => x' = .bool bb ∧ w' = W)
          case first =>
            by_cases hl : p.length = q.length
            · have z1 : ((p.length : Int) == q.length) = true := by simp [hl]
              by_cases hw : wp = wq
              · have z2 : (wp == wq) = true := by simp [hw]
                have hb1 : Hid (bb = true) := hide (by rw [hbb.out]; simp [hl, hw])
                replace hl := hide hl
                replace hw := hide hw
                go_wp2
                go_meet
                exact ⟨by rw [hb1.out], rfl⟩
              · have z2 : (wp == wq) = false := by simpa using hw
                have hb1 : Hid (bb = false) := hide (by rw [hbb.out]; simp [hw])
                replace hl := hide hl
                replace hw := hide hw
                go_wp2
                go_meet
                exact ⟨by rw [hb1.out], rfl⟩
            · have z1 : ((p.length : Int) == q.length) = false := by simp; omega
              have hb1 : Hid (bb = false) := hide (by rw [hbb.out]; simp [hl])
              replace hl := hide hl
              go_wp2
              go_meet
              exact ⟨by rw [hb1.out], rfl⟩
          case rest =>
          obtain ⟨rfl, hwV⟩ := hcut
          obtain rfl : W = wc := hwV.symm
          go_upto_region 15 with (fail)
          go_loopw [9, 10] (fun s i wv => ∃ (b : Bool) (k : Nat), k ≤ p.length ∧ s = .bool b ∧ i = .int .i64 k ∧ Below W.heap.size W wv ∧ Hid ((b = true → p.length = q.length ∧ wp = wq ∧ p.take k = q.take k) ∧ (b = false → sameB p wp q wq = false))) (fun _ i _ => p.length - (intOf i).toNat)
          case atStart =>
            refine ⟨bb, 0, by omega, rfl, rfl, Below.refl _ _, hide ⟨fun hb => ?_, fun hb => ?_⟩⟩
            · have := hbb.out
              rw [hb] at this
              have := of_decide_eq_true this.symm
              exact ⟨this.1, this.2, rfl⟩
            · have := hbb.out
              rw [hb] at this
              have := of_decide_eq_false this.symm
              cases hsb : sameB p wp q wq with
              | false => rfl
              | true =>
                simp only [sameB, Bool.and_eq_true, decide_eq_true_eq] at hsb
                exact absurd (by simp_all) this
          case round =>
            obtain ⟨b, k, hk, rfl, rfl, hB, hbr⟩ := hrel
            have hWz : w.heap.size + 1 < W.heap.size := by have := hM.out.size; have := hB24.out.size; omega
            have f0 := (hB.cell (p := ⟨w.heap.size, 0, none⟩) (by show w.heap.size < _; omega)).trans e0
            have f1 := (hB.cell (p := ⟨w.heap.size, 1, none⟩) (by show w.heap.size < _; omega)).trans e1
            have f2 := (hB.cell (p := ⟨w.heap.size + 1, 0, none⟩) hWz).trans e2
            have f3 := (hB.cell (p := ⟨w.heap.size + 1, 1, none⟩) hWz).trans e3
            by_cases hgo : k < p.length ∧ b = true
            · obtain ⟨hlt, rfl⟩ := hgo
              obtain ⟨hql, hww, htk⟩ := hbr.out.1 rfl
              have hlt' : k < q.length := by omega
              have hXr := hide (hXW.out.trans (hB.mono hXW.out.size))
              obtain ⟨A', cap', b, off, eP, h2, h3, h4, h5⟩ := hsm.out wr hXr.out
              injection eP with eP1 eP2 eP3
              subst eP1 eP3
              obtain ⟨rfl, hb⟩ := h4 (by omega)
              obtain ⟨B', cap2, b', off', eQ, g2, g3, g4, g5⟩ := hsq.out wr hXr.out
              injection eQ with eQ1 eQ2 eQ3
              subst eQ1 eQ3
              obtain ⟨rfl, hb'⟩ := g4 (by omega)
              have hx := List.getElem?_eq_getElem hlt
              have hy := List.getElem?_eq_getElem hlt'
              obtain ⟨vs, ⟨cv, rfl, hcv⟩, hat⟩ := h5 k p[k] hx
              obtain ⟨us, ⟨cu, rfl, hcu⟩, hat'⟩ := g5 k q[k] hy
              obtain ⟨c0, c1, c2, c3, c4, c5⟩ := hat.c6
              obtain ⟨d0, d1, d2, d3, d4, d5⟩ := hat'.c6
              have hno : p[k] ≠ q[k] → sameB p wp q wq = false := fun h => by simp [sameB, ne_at hx hy h]
              have hyes : p[k] = q[k] → p.take (k + 1) = q.take (k + 1) := fun h => take_snoc hx (h ▸ hy) htk
              clear h2 h3 h4 h5 g2 g3 g4 g5 hat hat' hx hy htk hbr
              generalize p[k] = s at *
              generalize q[k] = t at *
              obtain ⟨an, ak, am, ax, ag, ac⟩ := s
              obtain ⟨bn, bk, bm, bx, bg, bc⟩ := t
              simp only at c0 c1 c2 c3 c4 c5 d0 d1 d2 d3 d4 d5 hcv hcu
              obtain ⟨Ac, kc, rfl⟩ := RdL.len hcv
              obtain ⟨Au, ku, rfl⟩ := RdL.len hcu
              have hrz : w.heap.size + 1 < wr.heap.size := Nat.lt_of_lt_of_le hWz hB.size
              have hrz0 : w.heap.size < wr.heap.size := by omega
              have hki : (k : Int) < p.length := by omega
              have hki' : (k : Int) < q.length := by omega
              replace hno := hide hno
              replace hyes := hide hyes
              replace hcv := hide hcv
              replace hcu := hide hcu
              replace hB := hide hB
              replace hql := hide hql
              replace hww := hide hww
              clear e0 e1 e2 e3
              go_upto_region 17 with (fail)
              go_cut [11, 12] from 99 to 109 (fun x y w' => ∃ ga gb, x = .pointer (some ⟨ga, 0, none⟩) ∧ y = .pointer (some ⟨gb, 0, none⟩) ∧ Below wr.heap.size wr w' ∧
                Blk w' ga 30 #[.bool an, .int .i64 ak, .int .i64 am, .int .i64 ax, .bool ag, .slice Ac ac.length kc] ∧ Blk w' gb 30 #[.bool bn, .int .i64 bk, .int .i64 bm, .int .i64 bx, .bool bg, .slice Au bc.length ku])
              case first =>
                go_region
                · go_wp2
                  go_meet
                  exact ⟨_, _, rfl, rfl, (two_new wr _ _ _ _).1, (two_new wr _ _ _ _).2.1, (two_new wr _ _ _ _).2.2⟩
                · go_wp2
                  go_meet
                  exact ⟨_, _, rfl, rfl, (two_new wr _ _ _ _).1, (two_new wr _ _ _ _).2.2, (two_new wr _ _ _ _).2.1⟩
              case rest =>
              obtain ⟨ga, gb, rfl, rfl, hBc, hA, hC⟩ := hcut
              obtain ⟨W3, rfl⟩ : ∃ W3 : World, W3 = wc := ⟨_, rfl⟩
              have hb3 := hide (hB.out.trans (hBc.mono hB.out.size))
              have hcv3 := hide (hcv.out.below hBc hBc.size)
              have hcu3 := hide (hcu.out.below hBc hBc.size)
              have hlA := hA.lt
              have hlC := hC.lt
              have a0 := hA.cell 0
              have a1 := hA.cell 1
              have a2 := hA.cell 2
              have a3 := hA.cell 3
              have a4 := hA.cell 4
              have a5 := hA.cell 5
              have q0 := hC.cell 0
              have q1 := hC.cell 1
              have q2 := hC.cell 2
              have q3 := hC.cell 3
              have q4 := hC.cell 4
              have q5 := hC.cell 5
              simp at a0 a1 a2 a3 a4 a5 q0 q1 q2 q3 q4 q5
              replace hA := hide hA
              replace hC := hide hC
              clear hBc hcv hcu f0 f1 f2 f3 hb hb' c0 c1 c2 c3 c4 c5 d0 d1 d2 d3 d4 d5
              obtain ⟨cb, hcb⟩ : ∃ cb : Bool, Hid (cb = decide (an = bn ∧ ak = bk ∧ am = bm ∧ ax = bx ∧ ag = bg ∧ ac.length = bc.length)) := ⟨_, hide rfl⟩
              go_upto_region 18 with (fail)
              go_cut [9] from 109 to 151 (fun x w' => x = .bool cb ∧ w' = W3)
              case first =>
                by_cases h1 : an = bn
                rotate_left
                · have hb1 : Hid (cb = false) := hide (by rw [hcb.out]; simp [h1])
                  have z : (an == bn) = false := by simpa using h1
                  clear h1
                  go_wp2
                  go_meet
                  exact ⟨by rw [hb1.out], rfl⟩
                subst h1
                by_cases h2 : ak = bk
                rotate_left
                · have hb1 : Hid (cb = false) := hide (by rw [hcb.out]; simp [h2])
                  have z : (ak == bk) = false := by simpa using h2
                  clear h2
                  go_wp2
                  go_meet
                  exact ⟨by rw [hb1.out], rfl⟩
                subst h2
                by_cases h3 : am = bm
                rotate_left
                · have hb1 : Hid (cb = false) := hide (by rw [hcb.out]; simp [h3])
                  have z : (am == bm) = false := by simpa using h3
                  clear h3
                  go_wp2
                  go_meet
                  exact ⟨by rw [hb1.out], rfl⟩
                subst h3
                by_cases h4 : ax = bx
                rotate_left
                · have hb1 : Hid (cb = false) := hide (by rw [hcb.out]; simp [h4])
                  have z : (ax == bx) = false := by simpa using h4
                  clear h4
                  go_wp2
                  go_meet
                  exact ⟨by rw [hb1.out], rfl⟩
                subst h4
                by_cases h5 : ag = bg
                rotate_left
                · have hb1 : Hid (cb = false) := hide (by rw [hcb.out]; simp [h5])
                  have z : (ag == bg) = false := by simpa using h5
                  clear h5
                  go_wp2
                  go_meet
                  exact ⟨by rw [hb1.out], rfl⟩
                subst h5
                by_cases h6 : ac.length = bc.length
                · have hb1 : Hid (cb = true) := hide (by rw [hcb.out]; simp [h6])
                  have z : ((ac.length : Int) == bc.length) = true := by simp [h6]
                  replace h6 := hide h6
                  go_wp2
                  go_meet
                  exact ⟨by rw [hb1.out], rfl⟩
                · have hb1 : Hid (cb = false) := hide (by rw [hcb.out]; simp [h6])
                  have z : ((ac.length : Int) == bc.length) = false := by simp; omega
                  replace h6 := hide h6
                  go_wp2
                  go_meet
                  exact ⟨by rw [hb1.out], rfl⟩
              case rest =>
              obtain ⟨rfl, hwV3⟩ := hcut
              obtain rfl : W3 = wc := hwV3.symm
              clear a0 a1 a2 a3 a4 q0 q1 q2 q3 q4
              have hsl : (ac.length : Int) ≤ 9223372036854775807 := by have := RdL.lenle hcv3.out; omega
              go_upto_region 20 with (fail)
              go_loopw [9, 13] (fun s i wv => ∃ (b2 : Bool) (m : Nat), m ≤ ac.length ∧ s = .bool b2 ∧ i = .int .i64 m ∧ Below W3.heap.size W3 wv ∧ Hid ((b2 = true → (an = bn ∧ ak = bk ∧ am = bm ∧ ax = bx ∧ ag = bg) ∧ ac.length = bc.length ∧ ac.take m = bc.take m) ∧ (b2 = false → sameB p wp q wq = false))) (fun _ i _ => ac.length - (intOf i).toNat)
              case atStart =>
                refine ⟨cb, 0, by omega, rfl, rfl, Below.refl _ _, hide ⟨fun hb => ?_, fun hb => ?_⟩⟩
                · have := hcb.out
                  rw [hb] at this
                  obtain ⟨r1, r2, r3, r4, r5, r6⟩ := of_decide_eq_true this.symm
                  exact ⟨⟨r1, r2, r3, r4, r5⟩, r6, rfl⟩
                · have := hcb.out
                  rw [hb] at this
                  have := of_decide_eq_false this.symm
                  exact hno.out (by rintro ⟨⟩; exact this ⟨rfl, rfl, rfl, rfl, rfl, rfl⟩)
              case round =>
                obtain ⟨b2, m, hm, rfl, rfl, hB4, hbr⟩ := hrel
                have n5 := (hA.out.below hB4 hlA).cell 5
                have m5 := (hC.out.below hB4 hlC).cell 5
                simp at n5 m5
                clear a5 q5
                by_cases hgo : m < ac.length ∧ b2 = true
                · obtain ⟨hlt2, rfl⟩ := hgo
                  obtain ⟨⟨r1, r2, r3, r4, r5⟩, hl2, htk2⟩ := hbr.out.1 rfl
                  have hlt3 : m < bc.length := by omega
                  have hcr := hcv3.out.below hB4 hB4.size
                  have hur := hcu3.out.below hB4 hB4.size
                  obtain ⟨A', cap', b3, off3, eP, h2, h3, h4, h5⟩ := hcr
                  injection eP with eP1 eP2 eP3
                  subst eP1 eP3
                  obtain ⟨rfl, hb⟩ := h4 (by omega)
                  obtain ⟨B', cap2, b4, off4, eQ, g2, g3, g4, g5⟩ := hur
                  injection eQ with eQ1 eQ2 eQ3
                  subst eQ1 eQ3
                  obtain ⟨rfl, hb'⟩ := g4 (by omega)
                  have hx := List.getElem?_eq_getElem hlt2
                  have hy := List.getElem?_eq_getElem hlt3
                  obtain ⟨vs, ⟨rfl, -⟩, hat⟩ := h5 m ac[m] hx
                  obtain ⟨us, ⟨rfl, -⟩, hat'⟩ := g5 m bc[m] hy
                  obtain ⟨c0, c1, c2, c3, c4, c5, c6, c7, c8⟩ := hat.c9
                  obtain ⟨d0, d1, d2, d3, d4, d5, d6, d7, d8⟩ := hat'.c9
                  have hno2 : ac[m] ≠ bc[m] → Hid (sameB p wp q wq = false) := fun h => hide (hno.out (by rintro ⟨⟩; exact h rfl))
                  have hyes2 : ac[m] = bc[m] → Hid (ac.take (m + 1) = bc.take (m + 1)) := fun h => hide (take_snoc hx (h ▸ hy) htk2)
                  have hrr := hide (⟨r1, r2, r3, r4, r5⟩ : an = bn ∧ ak = bk ∧ am = bm ∧ ax = bx ∧ ag = bg)
                  have he := eq_cmV ac[m] bc[m]
                  have hmi : (m : Int) < ac.length := by omega
                  have hmi' : (m : Int) < bc.length := by omega
                  replace hno2 := hide hno2
                  replace hyes2 := hide hyes2
                  replace hl2 := hide hl2
                  clear h2 h3 h4 h5 g2 g3 g4 g5 hat hat' hx hy htk2 hbr r1 r2 r3 r4 r5
                  generalize ac[m] = c at *
                  generalize bc[m] = d at *
                  by_cases hcd : c = d
                  · have hn := hyes2.out hcd
                    simp only [hcd, decide_true] at he
                    subst hcd
                    clear hno2 hyes2
                    replace hrr := hide hrr
                    go_upto_region 22 with (fail)
                    go_quiet (fail)
                    go_wp2
                    exact ⟨⟨true, m + 1, by omega, rfl, rfl, bdrewN hB4 _, hide ⟨fun _ => ⟨hrr.out.out, hl2.out, hn.out⟩, fun h => by cases h⟩⟩, by simp [intOf]; omega⟩
                  · have hn := hno2.out hcd
                    simp only [hcd, decide_false] at he
                    clear hno2 hyes2
                    replace hrr := hide hrr
                    go_upto_region 22 with (fail)
                    go_quiet (fail)
                    go_wp2
                    exact ⟨⟨false, m + 1, by omega, rfl, rfl, bdrewN hB4 _, hide ⟨fun h => by (cases h), fun _ => hn.out⟩⟩, by simp [intOf]; omega⟩
                · have hend : Hid ((b2 = true → p.length = q.length ∧ wp = wq ∧ p.take (k + 1) = q.take (k + 1)) ∧ (b2 = false → sameB p wp q wq = false)) := hide (by
                    refine ⟨fun h => ?_, hbr.out.2⟩
                    subst h
                    obtain ⟨⟨r1, r2, r3, r4, r5⟩, r6, r7⟩ := hbr.out.1 rfl
                    have hml : m = ac.length := by
                      have : ¬ m < ac.length := fun h => hgo ⟨h, rfl⟩
                      omega
                    rw [hml] at r7
                    have r8 := eq_of_take r6 r7
                    exact ⟨hql.out, hww.out, hyes.out (by rw [r1, r2, r3, r4, r5, r8])⟩)
                  have hcase : m = ac.length ∨ (m < ac.length ∧ b2 = false) := by
                    cases b2 with
                    | false =>
                      by_cases h : m < ac.length
                      · exact .inr ⟨h, rfl⟩
                      · exact .inl (by omega)
                    | true => exact .inl (by have : ¬ m < ac.length := fun h => hgo ⟨h, rfl⟩; omega)
                  have hBe := hide (hb3.out.trans (hB4.mono hb3.out.size))
                  clear hgo hbr hB4
                  rcases hcase with rfl | ⟨hlt2, rfl⟩
                  all_goals (
                    go_wp2
                    exact ⟨⟨_, k + 1, by omega, rfl, rfl, hBe.out, hend⟩, by simp [intOf]; omega⟩)
            · have hbS : b = sameB p wp q wq := by
                cases b with
                | false => exact (hbr.out.2 rfl).symm
                | true =>
                  have hkl : k = p.length := by
                    have : ¬ k < p.length := fun h => hgo ⟨h, rfl⟩
                    omega
                  subst hkl
                  obtain ⟨h1, h2, h3⟩ := hbr.out.1 rfl
                  have h4 := eq_of_take h1 h3
                  subst h4 h2
                  simp [sameB]
              have hcase : k = p.length ∨ (k < p.length ∧ b = false) := by
                cases b with
                | false =>
                  by_cases h : k < p.length
                  · exact .inr ⟨h, rfl⟩
                  · exact .inl (by omega)
                | true => exact .inl (by have : ¬ k < p.length := fun h => hgo ⟨h, rfl⟩; omega)
              have hOW : O < W.heap.size := hbo'.out.lt
              have hOr : O < wr.heap.size := Nat.lt_of_lt_of_le hOW hB.size
              have hrz : w.heap.size + 1 < wr.heap.size := Nat.lt_of_lt_of_le hWz hB.size
              have hrz0 : w.heap.size < wr.heap.size := by omega
              have g0 := (hbo'.out.below hB hOW).cell 0
              have g1 := (hbo'.out.below hB hOW).cell 1
              simp at g0 g1
              have hXr := hide (hXW.out.trans (hB.mono hXW.out.size))
              have hself : sameB p wp p wp = true := by simp [sameB]
              have hro : RdS W W.heap.size (.slice Ao po.length co) p := by have := ho.out.rd; rwa [hpo.out] at this
              have k1 := hide fun w1 (hb : Below wr.heap.size wr w1) => rsame_any p p wp wp _ _ w1 (hro.below (hB.trans (hb.mono hB.size)) (Nat.le_trans hB.size hb.size)) (hsm.out w1 (hXr.out.trans (hb.mono hXr.out.size)))
              have k2 := hide fun w1 (hb : Below wr.heap.size wr w1) => same_any p q wp wq _ _ w1 (hsm.out w1 (hXr.out.trans (hb.mono hXr.out.size))) (hsq.out w1 (hXr.out.trans (hb.mono hXr.out.size)))
              have k3 := hide fun w1 (hb : Below wr.heap.size wr w1) => same_any p p wp wp _ _ w1 (hsm.out w1 (hXr.out.trans (hb.mono hXr.out.size))) (hsm.out w1 (hXr.out.trans (hb.mono hXr.out.size)))
              rw [hself] at k1 k3
              rw [← hbS] at k2
              replace hbS := hide hbS
              replace hB := hide hB
              clear hself hro hgo hbr e0 e1 e2 e3 hOW
              rcases hcase with rfl | ⟨hlt, rfl⟩
              all_goals (
                go_wp2_with (first | (go_at_call 25; (with_reducible refine (stayf (G := wr.heap.size) (k1.out _ (Below.refl _ _)) (Nat.le_refl _)).mono ?_); rintro e7 w7 ⟨rfl, hc7, hf7, hz7, hB7⟩) | (go_at_call 18; (with_reducible refine (stayf (G := wr.heap.size) (k2.out _ hB7.out) hz7).mono ?_); rintro e8 w8 ⟨rfl, hc8, hf8, hz8, hB8⟩; have hB78 := hide (hB7.out.trans hB8.out)) | (go_at_call 18; (with_reducible refine (stayf (G := wr.heap.size) (k3.out _ hB78.out) hz8).mono ?_); rintro e9 w9 ⟨rfl, hc9, hf9, hz9, hB9⟩; have hB79 := hide (hB78.out.trans hB9.out)) | (go_at_call 14; (with_reducible refine (wakes08_true _).mono ?_); rintro e10 w10 ⟨rfl, hB10⟩))
                go_ret
                exact ⟨rfl, (hXr.out.trans (hB79.out.mono (by have := hXr.out.size; exact this))).trans (hB10.mono (by have := hXr.out.size; have := hB79.out.size; omega))⟩)
end Go.Proofs.Ytidddeobachjgaa
