/- Which patterns may be written: the walk of the reference's Right. -/
import Derived.Test.YtidddeobachjgaaTrE
namespace Go.Proofs.Ytidddeobachjgaa
open Go.RowKit

theorem right_mid {p : List Sp} {win : Int} (h0 : 0 < p.length) (h26 : p.length ≤ 26) (hw : numB win = true) : rightB p win = p.all Sp.ok := by
  simp [rightB, h0, h26, hw]

set_option maxRecDepth 100000 in
set_option maxHeartbeats 2000000 in
theorem rright_any (p : List Sp) (win : Int) (v : Value) (w : World) (h : RdS w w.heap.size v p) :
    Calls Try.prog 13 #[ptV v win] w fun e w' => e = .returned (.bool (rightB p win)) ∧ Below w.heap.size w w' := by
  have hl := RdL.lenle h
  have hnum := hide (rnumber_any win)
  by_cases h0 : p.length = 0
  · obtain rfl := List.eq_nil_of_length_eq_zero h0
    obtain ⟨A, cap, rfl⟩ := h.len
    clear h hnum hl
    go_enter Try.func13, Try.ntmps13
    go_wp2
    go_ret
    exact ⟨rfl, (Below.refl _ _).alloc (Nat.le_refl _) _⟩
  replace h0 : 0 < p.length := by omega
  by_cases h26 : 26 < p.length
  · have hf : rightB p win = false := by simp [rightB]; omega
    rw [hf]
    obtain ⟨A, cap, rfl⟩ := h.len
    clear hf h hnum
    go_enter Try.func13, Try.ntmps13
    go_wp2
    go_ret
    exact ⟨rfl, (Below.refl _ _).alloc (Nat.le_refl _) _⟩
  replace h26 : p.length ≤ 26 := by omega
  cases hw : numB win with
  | false =>
    have hf : rightB p win = false := by simp [rightB, hw]
    rw [hf]
    rw [hw] at hnum
    obtain ⟨A, cap, rfl⟩ := h.len
    clear hf h hw
    go_enter Try.func13, Try.ntmps13
    go_wp2_with (go_at_call 37; (with_reducible refine (hnum.out _).mono ?_); rintro e w1 ⟨rfl, rfl⟩)
    go_ret
    exact ⟨rfl, (Below.refl _ _).alloc (Nat.le_refl _) _⟩
  | true =>
    rw [right_mid h0 h26 hw]
    rw [hw] at hnum
    clear hw
    obtain ⟨A, cap, b, off, rfl, h2, h3, h4, h5⟩ := h
    replace h4 := h4 h0
    obtain ⟨rfl, hb⟩ := h4
    go_enter Try.func13, Try.ntmps13
    go_wp2_with (go_at_call 37; (with_reducible refine (hnum.out _).mono ?_); rintro e w1 ⟨rfl, rfl⟩)
    go_loopw [3] (fun i wr => ∃ k : Nat, k ≤ p.length ∧ i = .int .i64 k ∧ Hid ((p.take k).all Sp.ok = true) ∧ Below w.heap.size w wr ∧ wr.cell? ⟨w.heap.size, 0, none⟩ = some (.slice (some ⟨b, off, none⟩) p.length cap) ∧ w.heap.size < wr.heap.size) (fun i _ => p.length - (intOf i).toNat)
    case atStart => exact ⟨0, by omega, rfl, hide rfl, (Below.refl _ _).alloc (Nat.le_refl _) _, by simp, by simp⟩
    case round =>
      obtain ⟨k, hk, rfl, hyes, hB, hcell, hz⟩ := hrel
      obtain ⟨wo, rfl⟩ : ∃ wo : World, wo = wr := ⟨_, rfl⟩
      by_cases hlt : k < p.length
      · have hx := List.getElem?_eq_getElem hlt
        obtain ⟨vs, ⟨cv, rfl, hcv⟩, hat⟩ := h5 k p[k] hx
        obtain ⟨c0, c1, c2, c3, c4, c5⟩ := (hat.below hB hb).c6
        replace hcv := hcv.below hB hB.size
        have hnx : Sp.ok p[k] = true → Hid ((p.take (k + 1)).all Sp.ok = true) := fun h => hide (by rw [all_snoc hx, hyes.out, h]; rfl)
        have hno : Sp.ok p[k] = false → Hid (p.all Sp.ok = false) := fun h => hide (all_take_false hx h)
        have hnx := hide hnx
        have hno := hide hno
        clear hat h5 hx hyes
        generalize p[k] = s at *
        obtain ⟨neg, kind, mn, mx, strict, cmps⟩ := s
        simp only at c0 c1 c2 c3 c4 c5 hcv
        have hn1 := hide (rnumber_any kind)
        have hn2 := hide (rnumber_any mn)
        have hn3 := hide (rnumber_any mx)
        have hok : Sp.ok ⟨neg, kind, mn, mx, strict, cmps⟩ = (numB kind && numB mn && numB mx && cmps.all Cm.ok) := rfl
        rw [hok] at hnx hno
        clear hok
        generalize numB kind = b1 at *
        generalize numB mn = b2 at *
        generalize numB mx = b3 at *
        have hcase : (b1 = true ∧ b2 = true ∧ b3 = true) ∨ (b1 = false) ∨ (b1 = true ∧ b2 = false) ∨ (b1 = true ∧ b2 = true ∧ b3 = false) := by cases b1 <;> cases b2 <;> cases b3 <;> simp
        have hlc := RdL.lenle hcv
        have hcv := hide hcv
        obtain ⟨A', cap', b', off', hcve, g2, g3, g4, g5⟩ := hcv.out
        subst hcve
        clear hcv
        rcases hcase with ⟨rfl, rfl, rfl⟩ | rfl | ⟨rfl, rfl⟩ | ⟨rfl, rfl, rfl⟩
        · have hnx : cmps.all Cm.ok = true → Hid ((p.take (k + 1)).all Sp.ok = true) := fun h => hnx.out h
          have hno : cmps.all Cm.ok = false → Hid (p.all Sp.ok = false) := fun h => hno.out h
          have hnx := hide hnx
          have hno := hide hno
          go_wp2_with (first | (go_at_call 37; (with_reducible refine (hn1.out _).mono ?_); rintro e w1 ⟨rfl, rfl⟩) | (go_at_call 37; (with_reducible refine (hn2.out _).mono ?_); rintro e w1 ⟨rfl, rfl⟩) | (go_at_call 37; (with_reducible refine (hn3.out _).mono ?_); rintro e w1 ⟨rfl, rfl⟩))
          have s0 : Below w.heap.size w (wo.alloc (.cells #[.bool neg, .int .i64 kind, .int .i64 mn, .int .i64 mx, .bool strict, .slice A' cmps.length cap'] 30)) := hB.alloc hB.size _
          have s1 : (wo.alloc (.cells #[.bool neg, .int .i64 kind, .int .i64 mn, .int .i64 mx, .bool strict, .slice A' cmps.length cap'] 30)).cell? ⟨w.heap.size, 0, none⟩ = some (.slice (some ⟨b, off, none⟩) p.length cap) := (World.cell?_alloc_lt _ _ _ hz).trans hcell
          have s2 : (wo.alloc (.cells #[.bool neg, .int .i64 kind, .int .i64 mn, .int .i64 mx, .bool strict, .slice A' cmps.length cap'] 30)).cell? ⟨wo.heap.size, 5, none⟩ = some (.slice A' cmps.length cap') := by simp
          have s3 : wo.heap.size < (wo.alloc (.cells #[.bool neg, .int .i64 kind, .int .i64 mn, .int .i64 mx, .bool strict, .slice A' cmps.length cap'] 30)).heap.size := by simp
          have s4 := (Below.refl wo.heap.size wo).alloc (Nat.le_refl _) (.cells #[.bool neg, .int .i64 kind, .int .i64 mn, .int .i64 mx, .bool strict, .slice A' cmps.length cap'] 30)
          generalize wo.alloc _ = V at *
          clear c0 c1 c2 c3 c4 c5
          go_loopw [5] (fun i wq => ∃ j : Nat, j ≤ cmps.length ∧ i = .int .i64 j ∧ Hid ((cmps.take j).all Cm.ok = true) ∧ Below V.heap.size V wq) (fun i _ => cmps.length - (intOf i).toNat)
          case atStart => exact ⟨0, by omega, rfl, hide rfl, Below.refl _ _⟩
          case round =>
            obtain ⟨j, hj, rfl, hys, hBq⟩ := hrel
            have t2 := (hBq.cell (p := ⟨wo.heap.size, 5, none⟩) s3).trans s2
            have zq := hBq.size
            by_cases hlj : j < cmps.length
            · obtain ⟨rfl, hb'⟩ := g4 (by omega)
              have hy := List.getElem?_eq_getElem hlj
              obtain ⟨us, ⟨rfl, hop⟩, hat⟩ := g5 j cmps[j] hy
              obtain ⟨c0, c1, c2, c3, c4, c5, c6, c7, c8⟩ := ((hat.below s4 hb').below hBq (by omega)).c9
              have hnj : Cm.ok cmps[j] = true → Hid ((cmps.take (j + 1)).all Cm.ok = true) := fun h => hide (by rw [all_snoc hy, hys.out, h]; rfl)
              have hnn : Cm.ok cmps[j] = false → Hid (cmps.all Cm.ok = false) := fun h => hide (all_take_false hy h)
              have hnj := hide hnj
              have hnn := hide hnn
              clear hat hy hys
              generalize cmps[j] = c at *
              obtain ⟨op, l, r⟩ := c
              simp only at c0 c1 c2 c3 c4 c5 c6 c7 c8
              simp only at hop
              have hl1 := hide (rterm_c l)
              have hr1 := hide (rterm_c r)
              have hokc : Cm.ok ⟨op, l, r⟩ = (decide (op ≠ 0 ∧ op < 7) && l.ok && r.ok) := rfl
              rw [hokc] at hnj hnn
              clear hokc
              have u0 := s0.trans (hBq.mono s0.size)
              by_cases hop1 : op < 1
              · have hnn := hide (hnn.out (by have : op = 0 := by omega
                                              simp [this]))
                clear hnj hl1 hr1 hnx g4 g5
                go_wp2
                go_ret
                refine ⟨ret_bool (hno.out hnn.out.out).out.symm, ?_⟩
                exact u0.alloc u0.size _
              by_cases hop7 : 7 ≤ op
              · have hnn := hide (hnn.out (by simp; omega))
                clear hnj hl1 hr1 hnx g4 g5
                go_wp2
                go_ret
                refine ⟨ret_bool (hno.out hnn.out.out).out.symm, ?_⟩
                exact u0.alloc u0.size _
              have hd : decide (op ≠ 0 ∧ op < 7) = true := by simp; omega
              rw [hd] at hnj hnn
              clear hd g4 g5
              replace hop7 := Int.not_le.1 hop7
              replace hop1 := Int.not_lt.1 hop1
              generalize l.ok = bl at *
              generalize r.ok = br at *
              have hcase : (bl = true ∧ br = true) ∨ bl = false ∨ (bl = true ∧ br = false) := by cases bl <;> cases br <;> simp
              rcases hcase with ⟨rfl, rfl⟩ | rfl | ⟨rfl, rfl⟩
              · replace hnj := hnj.out rfl
                clear hnn hnx hno
                go_wp2_with (first | (go_at_call 38; (with_reducible refine (stayf (G := wr.heap.size + 1) (hl1.out _) (by first | assumption | (simp; done))).mono ?_); rintro e w1 ⟨rfl, hc1, hf1, hz1, hB1⟩) | (go_at_call 38; (with_reducible refine (stayf (G := wr.heap.size + 1) (hr1.out _) (by first | assumption | (simp; done))).mono ?_); rintro e w2 ⟨rfl, hc2, hf2, hz2, hB2⟩))
                refine ⟨⟨j + 1, by omega, rfl, hnj, ?_⟩, by simp [intOf]; omega⟩
                repeat (first | exact Below.refl _ _ | refine Below.trans ?_ (Below.mono (Hid.out ‹Hid (Below _ _ _)›) (by first | omega | (simp; omega))) | refine Below.setCell ?_ (by first | omega | (simp; done) | (simp; omega)) _ | refine Below.alloc ?_ (by first | omega | (simp; done) | (simp; omega)) _ | refine Below.drew ?_)
                all_goals (refine Below.trans hBq ?_)
                repeat (first | exact Below.refl _ _ | refine Below.trans ?_ (Below.mono (Hid.out ‹Hid (Below _ _ _)›) (by first | omega | (simp; omega))) | refine Below.setCell ?_ (by first | omega | (simp; done) | (simp; omega)) _ | refine Below.alloc ?_ (by first | omega | (simp; done) | (simp; omega)) _ | refine Below.drew ?_)
              · have hnn := hide (hnn.out rfl)
                clear hnj hnx
                go_wp2_with (first | (go_at_call 38; (with_reducible refine (stayf (G := wr.heap.size + 1) (hl1.out _) (by first | assumption | (simp; done))).mono ?_); rintro e w1 ⟨rfl, hc1, hf1, hz1, hB1⟩))
                go_ret
                refine ⟨ret_bool (hno.out hnn.out.out).out.symm, ?_⟩
                repeat (first | exact Below.refl _ _ | refine Below.trans ?_ (Below.mono (Hid.out ‹Hid (Below _ _ _)›) (by first | omega | (simp; omega))) | refine Below.setCell ?_ (by first | omega | (simp; done) | (simp; omega)) _ | refine Below.alloc ?_ (by first | omega | (simp; done) | (simp; omega)) _ | refine Below.drew ?_)
              · have hnn := hide (hnn.out rfl)
                clear hnj hnx
                go_wp2_with (first | (go_at_call 38; (with_reducible refine (stayf (G := wr.heap.size + 1) (hl1.out _) (by first | assumption | (simp; done))).mono ?_); rintro e w1 ⟨rfl, hc1, hf1, hz1, hB1⟩) | (go_at_call 38; (with_reducible refine (stayf (G := wr.heap.size + 1) (hr1.out _) (by first | assumption | (simp; done))).mono ?_); rintro e w2 ⟨rfl, hc2, hf2, hz2, hB2⟩))
                go_ret
                refine ⟨ret_bool (hno.out hnn.out.out).out.symm, ?_⟩
                repeat (first | exact Below.refl _ _ | refine Below.trans ?_ (Below.mono (Hid.out ‹Hid (Below _ _ _)›) (by first | omega | (simp; omega))) | refine Below.setCell ?_ (by first | omega | (simp; done) | (simp; omega)) _ | refine Below.alloc ?_ (by first | omega | (simp; done) | (simp; omega)) _ | refine Below.drew ?_)
            · obtain rfl : j = cmps.length := by omega
              have hq := hnx.out (by rw [List.take_of_length_le (Nat.le_refl _)] at hys; exact hys.out)
              clear hys g4 g5
              have u0 := s0.trans (hBq.mono s0.size)
              have u1 := (hBq.cell (p := ⟨w.heap.size, 0, none⟩) (by show w.heap.size < V.heap.size; omega)).trans s1
              go_wp2
              exact ⟨⟨k + 1, by omega, rfl, hq, u0, u1, by omega⟩, by simp [intOf]; omega⟩
        all_goals
          have hno := hno.out rfl
          go_wp2_with (first | (go_at_call 37; (with_reducible refine (hn1.out _).mono ?_); rintro e w1 ⟨rfl, rfl⟩) | (go_at_call 37; (with_reducible refine (hn2.out _).mono ?_); rintro e w1 ⟨rfl, rfl⟩) | (go_at_call 37; (with_reducible refine (hn3.out _).mono ?_); rintro e w1 ⟨rfl, rfl⟩))
          go_ret
          exact ⟨ret_bool hno.out.symm, hB.alloc hB.size _⟩
      · obtain rfl : k = p.length := by omega
        have hi : Hid (p.all Sp.ok = true) := hide (by rw [List.take_of_length_le (Nat.le_refl _)] at hyes; exact hyes.out)
        clear h5 hyes
        go_wp2
        go_ret
        exact ⟨ret_bool hi.out.symm, hB⟩
end Go.Proofs.Ytidddeobachjgaa
