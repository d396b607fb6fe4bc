/- Several texts of one proof: The rules of the reference's layer of checks, one by one: the walks. | Which patterns may be written: the walk of the reference's Right. | The reference's layer of checks: the seventh rule, which rule is not kept first, tails and heads: the walks. -/
import Derived.Test.YtmmbblfmhcegcaaGreatM23
import Derived.Test.YtmmbblfmhcegcaaGreatM14
import Derived.Test.YtmmbblfmhcegcaaGreatM10

namespace Go.Proofs.YtmmbblfmhcegcaaGreat
open Go.RowKit

theorem rone_any (p : List Sp) (win : Int) (sv : Value) (w : World) (h : RdS w w.heap.size sv p) :
    Calls Tryz.prog 50 #[ptV sv win] w fun e w' => e = .returned (.int .i64 (whole (rule1 p win))) ∧ Below w.heap.size w w' := by
  have hll := RdL.lenle h
  obtain ⟨A, cap, rfl⟩ := h.len
  clear h
  by_cases hn : p.length ≤ 6
  · have hn' : (p.length : Int) ≤ 6 := by omega
    by_cases hw : win ≤ 1073741824
    · have hv : whole (rule1 p win) = -1 := by simp [rule1, hn, hw, whole]
      rw [hv]
      clear hv hn
      go_enter Tryz.func50, Tryz.ntmps50
      go_wp2
      go_ret
      exact ⟨rfl, (Below.refl _ _).alloc (Nat.le_refl _) _⟩
    · have hv : whole (rule1 p win) = 0 := by simp [rule1, hw, whole]
      rw [hv]
      replace hw : 1073741824 < win := by omega
      clear hv hn
      go_enter Tryz.func50, Tryz.ntmps50
      go_wp2
      go_ret
      exact ⟨rfl, (Below.refl _ _).alloc (Nat.le_refl _) _⟩
  · have hv : whole (rule1 p win) = 0 := by simp [rule1, hn, whole]
    rw [hv]
    have hn' : 6 < (p.length : Int) := by omega
    clear hv hn
    go_enter Tryz.func50, Tryz.ntmps50
    go_wp2
    go_ret
    exact ⟨rfl, (Below.refl _ _).alloc (Nat.le_refl _) _⟩

theorem rtwo_any (p : List Sp) (win : Int) (sv : Value) (w : World) (h : RdS w w.heap.size sv p) (h0 : 0 < p.length) :
    Calls Tryz.prog 51 #[ptV sv win] w fun e w' => e = .returned (.int .i64 (whole (rule2 p))) ∧ Below w.heap.size w w' := by
  obtain ⟨A, cap, b, off, rfl, h2, h3, h4, h5⟩ := h
  obtain ⟨rfl, hlt⟩ := h4 h0
  have hx := List.getElem?_eq_getElem h0
  obtain ⟨cs, ⟨cv, rfl, hcv⟩, hat⟩ := h5 0 p[0] hx
  obtain ⟨c0, c1, c2, c3, c4, c5⟩ := hat.c6
  have hst : stepAt p 0 = p[0] := by simp [stepAt, hx]
  have hr : rule2 p = (!p[0].neg && !p[0].strict) := by simp [rule2, hst]
  rw [hr]
  clear hr hst hcv hat h5 hx h4
  simp only [Nat.zero_mul, Nat.add_zero] at c0 c1 c2 c3 c4 c5
  have h0' : (0 : Int) < p.length := by omega
  generalize p[0] = s at *
  obtain ⟨neg, kind, mn, mx, strict, cmps⟩ := s
  simp only at c0 c1 c2 c3 c4 c5
  cases neg <;> cases strict
  all_goals
    go_enter Tryz.func51, Tryz.ntmps51
    go_wp2
    go_ret
    exact ⟨rfl, (Below.refl _ _).alloc (Nat.le_refl _) _⟩

set_option maxHeartbeats 1000000 in
theorem rsix_any (p : List Sp) (win : Int) (sv : Value) (w : World) (h : RdS w w.heap.size sv p) (hr : rightB p win = true) :
    Calls Tryz.prog 52 #[ptV sv win] w fun e w' => e = .returned (.int .i64 (whole (rule6 p))) ∧ Below w.heap.size w w' := by
  obtain ⟨h0, h26, hmx⟩ := right_parts hr
  have hbd := hide fun k => long_bd_take hmx h26 k
  have hv : rule6 p = decide (longF p ≤ 4) := rfl
  rw [hv]
  clear hmx hr hv
  obtain ⟨A, cap, b, off, rfl, h2, h3, h4, h5⟩ := h
  obtain ⟨rfl, hb⟩ := h4 h0
  clear h4
  go_enter Tryz.func52, Tryz.ntmps52
  go_wp2
  go_loopw [3, 4] (fun x i wr => ∃ k : Nat, k ≤ p.length ∧ i = .int .i64 k ∧ x = .int .i64 (longF (p.take k)) ∧ Below w.heap.size w wr ∧ wr.cell? ⟨w.heap.size, 0, none⟩ = some (.slice (some ⟨b, off, none⟩) p.length cap)) (fun _ i _ => p.length - (intOf i).toNat)
  case atStart => exact ⟨0, by omega, rfl, by simp [longF], (Below.refl _ _).alloc (Nat.le_refl _) _, by simp⟩
  case round =>
    obtain ⟨k, hk, rfl, rfl, hB, hbx⟩ := hrel
    by_cases hlt : k < p.length
    · have hx := List.getElem?_eq_getElem hlt
      obtain ⟨cs, ⟨cv, rfl, hcv⟩, hat⟩ := h5 k p[k] hx
      obtain ⟨c0, c1, c2, c3, c4, c5⟩ := (hat.below hB hb).c6
      have hsn := hide (long_snoc hx)
      obtain ⟨q1, q2⟩ := hbd.out k
      obtain ⟨q3, q4⟩ := hbd.out (k + 1)
      rw [long_snoc hx] at q3 q4
      clear hat h5 hcv hx
      generalize p[k] = s at *
      generalize longF (p.take k) = x at *
      obtain ⟨neg, kind, mn, mx, strict, cmps⟩ := s
      simp only at c0 c1 c2 c3 c4 c5 hsn q3 q4
      cases neg with
      | true =>
        simp only [if_true] at hsn
        clear q3 q4
        go_wp2
        exact ⟨⟨k + 1, by omega, rfl, by rw [hsn.out, Int.add_zero], hB, hbx⟩, by simp [intOf]; omega⟩
      | false =>
        simp only [Bool.false_eq_true, if_false] at hsn q3 q4
        have hw2 : IntKind.i64.wrap (x + mx) = x + mx := IntWalk.i64_in _ (by omega)
        go_wp2
        exact ⟨⟨k + 1, by omega, rfl, by rw [hsn.out], hB, hbx⟩, by simp [intOf]; omega⟩
    · obtain rfl : k = p.length := by omega
      rw [List.take_of_length_le (Nat.le_refl _)]
      clear h5 hbd
      by_cases h4 : longF p ≤ 4
      · have hd : Hid (decide (longF p ≤ 4) = true) := hide (by simpa using h4)
        go_wp2
        go_ret
        exact ⟨by rw [hd.out]; rfl, hB⟩
      · have hd : Hid (decide (longF p ≤ 4) = false) := hide (by simpa using h4)
        replace h4 : 4 < longF p := by omega
        go_wp2
        go_ret
        exact ⟨by rw [hd.out]; rfl, hB⟩

theorem rthree_any (p : List Sp) (win : Int) (k : Nat) (s : Sp) (sv : Value) (w : World) (h : RdS w w.heap.size sv p) (hs : p[k]? = some s) :
    Calls Tryz.prog 73 #[ptV sv win, .int .i64 k] w fun e w' => e = .returned (.bool (rule3 p k s)) ∧ Below w.heap.size w w' := by
  have hlt := (List.getElem?_eq_some_iff.1 hs).1
  obtain ⟨A, cap, b, off, rfl, h2, h3, h4, h5⟩ := h
  obtain ⟨rfl, hb⟩ := h4 (by omega)
  obtain ⟨cs, ⟨cv, rfl, hcv⟩, hat⟩ := h5 k s hs
  obtain ⟨c0, c1, c2, c3, c4, c5⟩ := hat.c6
  have hv : rule3 p k s = decide (s.kind < 6) := rfl
  rw [hv]
  clear hv h5 hat hcv hs h4
  go_enter Tryz.func73, Tryz.ntmps73
  go_wp2
  go_ret
  exact ⟨rfl, (Below.refl _ _).alloc (Nat.le_refl _) _⟩

set_option maxHeartbeats 2000000 in
theorem rfour_any (p : List Sp) (win : Int) (k : Nat) (s : Sp) (sv : Value) (w : World) (h : RdS w w.heap.size sv p) (hs : p[k]? = some s) :
    Calls Tryz.prog 74 #[ptV sv win, .int .i64 k] w fun e w' => e = .returned (.bool (rule4 p k s)) ∧ Below w.heap.size w w' := by
  have hlt := (List.getElem?_eq_some_iff.1 hs).1
  obtain ⟨A, cap, b, off, rfl, h2, h3, h4, h5⟩ := h
  obtain ⟨rfl, hb⟩ := h4 (by omega)
  obtain ⟨cs, ⟨cv, rfl, hcv⟩, hat⟩ := h5 k s hs
  obtain ⟨c0, c1, c2, c3, c4, c5⟩ := hat.c6
  obtain ⟨Ac, kc, hcve⟩ : ∃ A cap, cv = .slice A s.cmps.length cap := by
    obtain ⟨A, cap, b, off, e, -⟩ := hcv
    exact ⟨A, cap, e⟩
  subst hcve
  have hprev : ∀ j, k = j + 1 → w.cell? ⟨b, off + j * 6, none⟩ = some (.bool (stepAt p (k - 1)).neg) := fun j hj => by
    have hjl : j < p.length := by omega
    have hxj := List.getElem?_eq_getElem hjl
    obtain ⟨cs', ⟨cv', rfl, -⟩, hat'⟩ := h5 j p[j] hxj
    have := hat'.c6.1
    rw [this, hj]
    simp [stepAt, hxj]
  replace hprev := hide hprev
  have hr4 : rule4 p k s = (((!s.neg && (decide (k = 0) || !(stepAt p (k - 1)).neg)) || !s.strict) && (!s.neg || decide (s.min = 1 ∧ s.max = 1))) := rfl
  rw [hr4]
  clear hr4 h5 hat hcv hs h4
  generalize (stepAt p (k - 1)).neg = pn at *
  obtain ⟨neg, kind, mn, mx, strict, cmps⟩ := s
  simp only at c0 c1 c2 c3 c4 c5
  cases neg with
  | true =>
    by_cases hm : mn = 1
    · subst hm
      by_cases hx : mx = 1
      · subst hx
        cases strict with
        | true =>
          clear hprev
          go_enter Tryz.func74, Tryz.ntmps74
          go_wp2
          go_ret
          exact ⟨ret_bool (by simp), ((Below.refl _ _).alloc (Nat.le_refl _) _).alloc (by simp) _⟩
        | false =>
          rcases Nat.eq_zero_or_pos k with rfl | hk
          · clear hprev
            rw [show ((0 : Nat) : Int) = 0 from rfl]
            simp only [Nat.zero_mul, Nat.add_zero] at c0 c1 c2 c3 c4 c5
            have h0' : (0 : Int) < p.length := by omega
            go_enter Tryz.func74, Tryz.ntmps74
            go_wp2
            go_ret
            exact ⟨ret_bool (by simp), ((Below.refl _ _).alloc (Nat.le_refl _) _).alloc (by simp) _⟩
          · obtain ⟨j, rfl⟩ : ∃ j, k = j + 1 := ⟨k - 1, by omega⟩
            have d0 := hprev.out j rfl
            clear hprev
            cases pn
            all_goals
              go_enter Tryz.func74, Tryz.ntmps74
              go_wp2
              go_ret
              exact ⟨ret_bool (by simp), ((Below.refl _ _).alloc (Nat.le_refl _) _).alloc (by simp) _⟩
      · have d1 : (mx == 1) = false := by simpa using hx
        have d2 : (mx != 1) = true := by simpa using hx
        clear hprev
        go_enter Tryz.func74, Tryz.ntmps74
        go_wp2
        go_ret
        exact ⟨ret_bool (by simp [hx]), ((Below.refl _ _).alloc (Nat.le_refl _) _).alloc (by simp) _⟩
    · have d1 : (mn == 1) = false := by simpa using hm
      have d2 : (mn != 1) = true := by simpa using hm
      clear hprev
      go_enter Tryz.func74, Tryz.ntmps74
      go_wp2
      go_ret
      exact ⟨ret_bool (by simp [hm]), ((Below.refl _ _).alloc (Nat.le_refl _) _).alloc (by simp) _⟩
  | false =>
    rcases Nat.eq_zero_or_pos k with rfl | hk
    · clear hprev
      rw [show ((0 : Nat) : Int) = 0 from rfl]
      simp only [Nat.zero_mul, Nat.add_zero] at c0 c1 c2 c3 c4 c5
      have h0' : (0 : Int) < p.length := by omega
      go_enter Tryz.func74, Tryz.ntmps74
      go_wp2
      go_ret
      exact ⟨ret_bool (by simp), ((Below.refl _ _).alloc (Nat.le_refl _) _).alloc (by simp) _⟩
    · obtain ⟨j, rfl⟩ : ∃ j, k = j + 1 := ⟨k - 1, by omega⟩
      have d0 := hprev.out j rfl
      clear hprev
      cases pn <;> cases strict
      all_goals
        go_enter Tryz.func74, Tryz.ntmps74
        go_wp2
        go_ret
        exact ⟨ret_bool (by first | (simp; done) | (simp; omega)), ((Below.refl _ _).alloc (Nat.le_refl _) _).alloc (by simp) _⟩

set_option maxHeartbeats 1000000 in
theorem rfive_any (p : List Sp) (win : Int) (k : Nat) (s : Sp) (sv : Value) (w : World) (h : RdS w w.heap.size sv p) (hs : p[k]? = some s) :
    Calls Tryz.prog 75 #[ptV sv win, .int .i64 k] w fun e w' => e = .returned (.bool (rule5 p k s)) ∧ Below w.heap.size w w' := by
  have hlt := (List.getElem?_eq_some_iff.1 hs).1
  obtain ⟨A, cap, b, off, rfl, h2, h3, h4, h5⟩ := h
  obtain ⟨rfl, hb⟩ := h4 (by omega)
  obtain ⟨cs, ⟨cv, rfl, hcv⟩, hat⟩ := h5 k s hs
  obtain ⟨c0, c1, c2, c3, c4, c5⟩ := hat.c6
  obtain ⟨Ac, kc, hcve⟩ : ∃ A cap, cv = .slice A s.cmps.length cap := by
    obtain ⟨A, cap, b, off, e, -⟩ := hcv
    exact ⟨A, cap, e⟩
  subst hcve
  have hv : rule5 p k s = (s.neg || decide (0 < s.min ∧ s.min ≤ s.max ∧ s.max ≤ 3)) := rfl
  rw [hv]
  clear hv h5 hat hcv hs h4
  obtain ⟨neg, kind, mn, mx, strict, cmps⟩ := s
  simp only at c0 c1 c2 c3 c4 c5
  cases neg
  · by_cases h1 : 1 ≤ mn
    · by_cases h2 : mn ≤ mx
      · go_enter Tryz.func75, Tryz.ntmps75
        go_wp2
        go_ret
        exact ⟨ret_bool (by simp [h2]; intro _; omega), ((Below.refl _ _).alloc (Nat.le_refl _) _).alloc (by simp) _⟩
      · go_enter Tryz.func75, Tryz.ntmps75
        go_wp2
        go_ret
        exact ⟨ret_bool (by simp; omega), ((Below.refl _ _).alloc (Nat.le_refl _) _).alloc (by simp) _⟩
    · go_enter Tryz.func75, Tryz.ntmps75
      go_wp2
      go_ret
      exact ⟨ret_bool (by simp; omega), ((Below.refl _ _).alloc (Nat.le_refl _) _).alloc (by simp) _⟩
  · go_enter Tryz.func75, Tryz.ntmps75
    go_wp2
    go_ret
    exact ⟨rfl, ((Below.refl _ _).alloc (Nat.le_refl _) _).alloc (by simp) _⟩
end Go.Proofs.YtmmbblfmhcegcaaGreat

namespace Go.Proofs.YtmmbblfmhcegcaaGreat
open Go.RowKit

theorem right_mid {p : List Sp} {win : Int} (h0 : 0 < p.length) (h26 : p.length ≤ 26) (hw : numB win = true) : rightB p win = p.all Sp.ok := by
  simp [rightB, h0, h26, hw]

set_option maxRecDepth 100000 in
set_option maxHeartbeats 2000000 in
theorem rright_any (p : List Sp) (win : Int) (v : Value) (w : World) (h : RdS w w.heap.size v p) :
    Calls Tryz.prog 40 #[ptV v win] w fun e w' => e = .returned (.bool (rightB p win)) ∧ Below w.heap.size w w' := by
  have hl := RdL.lenle h
  have hnum := hide (rnumber_any win)
  by_cases h0 : p.length = 0
  · obtain rfl := List.eq_nil_of_length_eq_zero h0
    obtain ⟨A, cap, rfl⟩ := h.len
    clear h hnum hl
    go_enter Tryz.func40, Tryz.ntmps40
    go_wp2
    go_ret
    exact ⟨rfl, (Below.refl _ _).alloc (Nat.le_refl _) _⟩
  replace h0 : 0 < p.length := by omega
  by_cases h26 : 26 < p.length
  · have hf : rightB p win = false := by simp [rightB]; omega
    rw [hf]
    obtain ⟨A, cap, rfl⟩ := h.len
    clear hf h hnum
    go_enter Tryz.func40, Tryz.ntmps40
    go_wp2
    go_ret
    exact ⟨rfl, (Below.refl _ _).alloc (Nat.le_refl _) _⟩
  replace h26 : p.length ≤ 26 := by omega
  cases hw : numB win with
  | false =>
    have hf : rightB p win = false := by simp [rightB, hw]
    rw [hf]
    rw [hw] at hnum
    obtain ⟨A, cap, rfl⟩ := h.len
    clear hf h hw
    go_enter Tryz.func40, Tryz.ntmps40
    go_wp2_with (go_at_call 48; (with_reducible refine (hnum.out _).mono ?_); rintro e w1 ⟨rfl, rfl⟩)
    go_ret
    exact ⟨rfl, (Below.refl _ _).alloc (Nat.le_refl _) _⟩
  | true =>
    rw [right_mid h0 h26 hw]
    rw [hw] at hnum
    clear hw
    obtain ⟨A, cap, b, off, rfl, h2, h3, h4, h5⟩ := h
    replace h4 := h4 h0
    obtain ⟨rfl, hb⟩ := h4
    go_enter Tryz.func40, Tryz.ntmps40
    go_wp2_with (go_at_call 48; (with_reducible refine (hnum.out _).mono ?_); rintro e w1 ⟨rfl, rfl⟩)
    go_loopw [3] (fun i wr => ∃ k : Nat, k ≤ p.length ∧ i = .int .i64 k ∧ Hid ((p.take k).all Sp.ok = true) ∧ Below w.heap.size w wr ∧ wr.cell? ⟨w.heap.size, 0, none⟩ = some (.slice (some ⟨b, off, none⟩) p.length cap) ∧ w.heap.size < wr.heap.size) (fun i _ => p.length - (intOf i).toNat)
    case atStart => exact ⟨0, by omega, rfl, hide rfl, (Below.refl _ _).alloc (Nat.le_refl _) _, by simp, by simp⟩
    case round =>
      obtain ⟨k, hk, rfl, hyes, hB, hcell, hz⟩ := hrel
      obtain ⟨wo, rfl⟩ : ∃ wo : World, wo = wr := ⟨_, rfl⟩
      by_cases hlt : k < p.length
      · have hx := List.getElem?_eq_getElem hlt
        obtain ⟨vs, ⟨cv, rfl, hcv⟩, hat⟩ := h5 k p[k] hx
        obtain ⟨c0, c1, c2, c3, c4, c5⟩ := (hat.below hB hb).c6
        replace hcv := hcv.below hB hB.size
        have hnx : Sp.ok p[k] = true → Hid ((p.take (k + 1)).all Sp.ok = true) := fun h => hide (by rw [all_snoc hx, hyes.out, h]; rfl)
        have hno : Sp.ok p[k] = false → Hid (p.all Sp.ok = false) := fun h => hide (all_take_false hx h)
        have hnx := hide hnx
        have hno := hide hno
        clear hat h5 hx hyes
        generalize p[k] = s at *
        obtain ⟨neg, kind, mn, mx, strict, cmps⟩ := s
        simp only at c0 c1 c2 c3 c4 c5 hcv
        have hn1 := hide (rnumber_any kind)
        have hn2 := hide (rnumber_any mn)
        have hn3 := hide (rnumber_any mx)
        have hok : Sp.ok ⟨neg, kind, mn, mx, strict, cmps⟩ = (numB kind && numB mn && numB mx && cmps.all Cm.ok) := rfl
        rw [hok] at hnx hno
        clear hok
        generalize numB kind = b1 at *
        generalize numB mn = b2 at *
        generalize numB mx = b3 at *
        have hcase : (b1 = true ∧ b2 = true ∧ b3 = true) ∨ (b1 = false) ∨ (b1 = true ∧ b2 = false) ∨ (b1 = true ∧ b2 = true ∧ b3 = false) := by cases b1 <;> cases b2 <;> cases b3 <;> simp
        have hlc := RdL.lenle hcv
        have hcv := hide hcv
        obtain ⟨A', cap', b', off', hcve, g2, g3, g4, g5⟩ := hcv.out
        subst hcve
        clear hcv
        rcases hcase with ⟨rfl, rfl, rfl⟩ | rfl | ⟨rfl, rfl⟩ | ⟨rfl, rfl, rfl⟩
        · have hnx : cmps.all Cm.ok = true → Hid ((p.take (k + 1)).all Sp.ok = true) := fun h => hnx.out h
          have hno : cmps.all Cm.ok = false → Hid (p.all Sp.ok = false) := fun h => hno.out h
          have hnx := hide hnx
          have hno := hide hno
          go_wp2_with (first | (go_at_call 48; (with_reducible refine (hn1.out _).mono ?_); rintro e w1 ⟨rfl, rfl⟩) | (go_at_call 48; (with_reducible refine (hn2.out _).mono ?_); rintro e w1 ⟨rfl, rfl⟩) | (go_at_call 48; (with_reducible refine (hn3.out _).mono ?_); rintro e w1 ⟨rfl, rfl⟩))
          have s0 : Below w.heap.size w (wo.alloc (.cells #[.bool neg, .int .i64 kind, .int .i64 mn, .int .i64 mx, .bool strict, .slice A' cmps.length cap'] 45)) := hB.alloc hB.size _
          have s1 : (wo.alloc (.cells #[.bool neg, .int .i64 kind, .int .i64 mn, .int .i64 mx, .bool strict, .slice A' cmps.length cap'] 45)).cell? ⟨w.heap.size, 0, none⟩ = some (.slice (some ⟨b, off, none⟩) p.length cap) := (World.cell?_alloc_lt _ _ _ hz).trans hcell
          have s2 : (wo.alloc (.cells #[.bool neg, .int .i64 kind, .int .i64 mn, .int .i64 mx, .bool strict, .slice A' cmps.length cap'] 45)).cell? ⟨wo.heap.size, 5, none⟩ = some (.slice A' cmps.length cap') := by simp
          have s3 : wo.heap.size < (wo.alloc (.cells #[.bool neg, .int .i64 kind, .int .i64 mn, .int .i64 mx, .bool strict, .slice A' cmps.length cap'] 45)).heap.size := by simp
          have s4 := (Below.refl wo.heap.size wo).alloc (Nat.le_refl _) (.cells #[.bool neg, .int .i64 kind, .int .i64 mn, .int .i64 mx, .bool strict, .slice A' cmps.length cap'] 45)
          generalize wo.alloc _ = V at *
          clear c0 c1 c2 c3 c4 c5
          go_loopw [5] (fun i wq => ∃ j : Nat, j ≤ cmps.length ∧ i = .int .i64 j ∧ Hid ((cmps.take j).all Cm.ok = true) ∧ Below V.heap.size V wq) (fun i _ => cmps.length - (intOf i).toNat)
          case atStart => exact ⟨0, by omega, rfl, hide rfl, Below.refl _ _⟩
          case round =>
            obtain ⟨j, hj, rfl, hys, hBq⟩ := hrel
            have t2 := (hBq.cell (p := ⟨wo.heap.size, 5, none⟩) s3).trans s2
            have zq := hBq.size
            by_cases hlj : j < cmps.length
            · obtain ⟨rfl, hb'⟩ := g4 (by omega)
              have hy := List.getElem?_eq_getElem hlj
              obtain ⟨us, ⟨rfl, hop⟩, hat⟩ := g5 j cmps[j] hy
              obtain ⟨c0, c1, c2, c3, c4, c5, c6, c7, c8⟩ := ((hat.below s4 hb').below hBq (by omega)).c9
              have hnj : Cm.ok cmps[j] = true → Hid ((cmps.take (j + 1)).all Cm.ok = true) := fun h => hide (by rw [all_snoc hy, hys.out, h]; rfl)
              have hnn : Cm.ok cmps[j] = false → Hid (cmps.all Cm.ok = false) := fun h => hide (all_take_false hy h)
              have hnj := hide hnj
              have hnn := hide hnn
              clear hat hy hys
              generalize cmps[j] = c at *
              obtain ⟨op, l, r⟩ := c
              simp only at c0 c1 c2 c3 c4 c5 c6 c7 c8
              simp only at hop
              have hl1 := hide (rterm_c l)
              have hr1 := hide (rterm_c r)
              have hokc : Cm.ok ⟨op, l, r⟩ = (decide (op ≠ 0 ∧ op < 7) && l.ok && r.ok) := rfl
              rw [hokc] at hnj hnn
              clear hokc
              have u0 := s0.trans (hBq.mono s0.size)
              by_cases hop1 : op < 1
              · have hnn := hide (hnn.out (by have : op = 0 := by omega
                                              simp [this]))
                clear hnj hl1 hr1 hnx g4 g5
                go_wp2
                go_ret
                refine ⟨ret_bool (hno.out hnn.out.out).out.symm, ?_⟩
                exact u0.alloc u0.size _
              by_cases hop7 : 7 ≤ op
              · have hnn := hide (hnn.out (by simp; omega))
                clear hnj hl1 hr1 hnx g4 g5
                go_wp2
                go_ret
                refine ⟨ret_bool (hno.out hnn.out.out).out.symm, ?_⟩
                exact u0.alloc u0.size _
              have hd : decide (op ≠ 0 ∧ op < 7) = true := by simp; omega
              rw [hd] at hnj hnn
              clear hd g4 g5
              replace hop7 := Int.not_le.1 hop7
              replace hop1 := Int.not_lt.1 hop1
              generalize l.ok = bl at *
              generalize r.ok = br at *
              have hcase : (bl = true ∧ br = true) ∨ bl = false ∨ (bl = true ∧ br = false) := by cases bl <;> cases br <;> simp
              rcases hcase with ⟨rfl, rfl⟩ | rfl | ⟨rfl, rfl⟩
              · replace hnj := hnj.out rfl
                clear hnn hnx hno
                go_wp2_with (first | (go_at_call 49; (with_reducible refine (stayf (G := wr.heap.size + 1) (hl1.out _) (by first | assumption | (simp; done))).mono ?_); rintro e w1 ⟨rfl, hc1, hf1, hz1, hB1⟩) | (go_at_call 49; (with_reducible refine (stayf (G := wr.heap.size + 1) (hr1.out _) (by first | assumption | (simp; done))).mono ?_); rintro e w2 ⟨rfl, hc2, hf2, hz2, hB2⟩))
                refine ⟨⟨j + 1, by omega, rfl, hnj, ?_⟩, by simp [intOf]; omega⟩
                repeat (first | exact Below.refl _ _ | refine Below.trans ?_ (Below.mono (Hid.out ‹Hid (Below _ _ _)›) (by first | omega | (simp; omega))) | refine Below.setCell ?_ (by first | omega | (simp; done) | (simp; omega)) _ | refine Below.alloc ?_ (by first | omega | (simp; done) | (simp; omega)) _ | refine Below.drew ?_)
                all_goals (refine Below.trans hBq ?_)
                repeat (first | exact Below.refl _ _ | refine Below.trans ?_ (Below.mono (Hid.out ‹Hid (Below _ _ _)›) (by first | omega | (simp; omega))) | refine Below.setCell ?_ (by first | omega | (simp; done) | (simp; omega)) _ | refine Below.alloc ?_ (by first | omega | (simp; done) | (simp; omega)) _ | refine Below.drew ?_)
              · have hnn := hide (hnn.out rfl)
                clear hnj hnx
                go_wp2_with (first | (go_at_call 49; (with_reducible refine (stayf (G := wr.heap.size + 1) (hl1.out _) (by first | assumption | (simp; done))).mono ?_); rintro e w1 ⟨rfl, hc1, hf1, hz1, hB1⟩))
                go_ret
                refine ⟨ret_bool (hno.out hnn.out.out).out.symm, ?_⟩
                repeat (first | exact Below.refl _ _ | refine Below.trans ?_ (Below.mono (Hid.out ‹Hid (Below _ _ _)›) (by first | omega | (simp; omega))) | refine Below.setCell ?_ (by first | omega | (simp; done) | (simp; omega)) _ | refine Below.alloc ?_ (by first | omega | (simp; done) | (simp; omega)) _ | refine Below.drew ?_)
              · have hnn := hide (hnn.out rfl)
                clear hnj hnx
                go_wp2_with (first | (go_at_call 49; (with_reducible refine (stayf (G := wr.heap.size + 1) (hl1.out _) (by first | assumption | (simp; done))).mono ?_); rintro e w1 ⟨rfl, hc1, hf1, hz1, hB1⟩) | (go_at_call 49; (with_reducible refine (stayf (G := wr.heap.size + 1) (hr1.out _) (by first | assumption | (simp; done))).mono ?_); rintro e w2 ⟨rfl, hc2, hf2, hz2, hB2⟩))
                go_ret
                refine ⟨ret_bool (hno.out hnn.out.out).out.symm, ?_⟩
                repeat (first | exact Below.refl _ _ | refine Below.trans ?_ (Below.mono (Hid.out ‹Hid (Below _ _ _)›) (by first | omega | (simp; omega))) | refine Below.setCell ?_ (by first | omega | (simp; done) | (simp; omega)) _ | refine Below.alloc ?_ (by first | omega | (simp; done) | (simp; omega)) _ | refine Below.drew ?_)
            · obtain rfl : j = cmps.length := by omega
              have hq := hnx.out (by rw [List.take_of_length_le (Nat.le_refl _)] at hys; exact hys.out)
              clear hys g4 g5
              have u0 := s0.trans (hBq.mono s0.size)
              have u1 := (hBq.cell (p := ⟨w.heap.size, 0, none⟩) (by show w.heap.size < V.heap.size; omega)).trans s1
              go_wp2
              exact ⟨⟨k + 1, by omega, rfl, hq, u0, u1, by omega⟩, by simp [intOf]; omega⟩
        all_goals
          have hno := hno.out rfl
          go_wp2_with (first | (go_at_call 48; (with_reducible refine (hn1.out _).mono ?_); rintro e w1 ⟨rfl, rfl⟩) | (go_at_call 48; (with_reducible refine (hn2.out _).mono ?_); rintro e w1 ⟨rfl, rfl⟩) | (go_at_call 48; (with_reducible refine (hn3.out _).mono ?_); rintro e w1 ⟨rfl, rfl⟩))
          go_ret
          exact ⟨ret_bool hno.out.symm, hB.alloc hB.size _⟩
      · obtain rfl : k = p.length := by omega
        have hi : Hid (p.all Sp.ok = true) := hide (by rw [List.take_of_length_le (Nat.le_refl _)] at hyes; exact hyes.out)
        clear h5 hyes
        go_wp2
        go_ret
        exact ⟨ret_bool hi.out.symm, hB⟩
end Go.Proofs.YtmmbblfmhcegcaaGreat

namespace Go.Proofs.YtmmbblfmhcegcaaGreat
open Go.RowKit

theorem askedOk_all {p : List Sp} {i : Nat} {l : List Int} {k : Nat} {x : Int} (hx : l[k]? = some x) (h : (l.take k).all (askOk p i) = true) : (l.take (k + 1)).all (askOk p i) = askOk p i x := by
  simp [List.take_add_one, hx, List.all_append, h]
theorem names_nonneg {p : List Sp} {win : Int} (h : rightB p win = true) {k : Nat} {s : Sp} (hs : p[k]? = some s) : ∀ n ∈ asked s.cmps, 0 ≤ n := by
  simp only [rightB, Bool.and_eq_true, List.all_eq_true, Sp.ok] at h
  have hc := (h.2 s (List.mem_of_getElem? hs)).2
  intro n hn
  rw [mem_asked] at hn
  obtain ⟨c, hcm, hn⟩ := List.mem_flatMap.1 hn
  have hok := hc c hcm
  simp only [Cm.ok, Bool.and_eq_true] at hok
  rcases List.mem_append.1 hn with h | h
  · exact (right_term hok.1.2 h).1
  · exact (right_term hok.2 h).1

set_option maxRecDepth 100000 in
set_option maxHeartbeats 4000000 in
theorem rseven_any (p : List Sp) (win : Int) (k : Nat) (s : Sp) (sv : Value) (w : World) (h : RdS w w.heap.size sv p) (hs : p[k]? = some s) (hr : rightB p win = true) (hcl : s.cmps.length ≤ 1000) :
    Calls Tryz.prog 76 #[ptV sv win, .int .i64 k] w fun e w' => e = .returned (.bool (rule7 p k s)) ∧ Below w.heap.size w w' := by
  have hlt := (List.getElem?_eq_some_iff.1 hs).1
  have hnn := hide (names_nonneg hr hs)
  clear hr
  obtain ⟨A, cap, b, off, rfl, h2, h3, h4, h5⟩ := h
  obtain ⟨rfl, hb⟩ := h4 (by omega)
  obtain ⟨cs, ⟨cv, rfl, hcv⟩, hat⟩ := h5 k s hs
  obtain ⟨c0, c1, c2, c3, c4, c5⟩ := hat.c6
  have hcell : ∀ (j : Nat) (s : Sp), p[j]? = some s → ∃ cv, At w b (off + j * 6) [.bool s.neg, .int .i64 s.kind, .int .i64 s.min, .int .i64 s.max, .bool s.strict, cv] := by
    intro j s hs
    obtain ⟨cs, ⟨cv, rfl, hr⟩, hat⟩ := h5 j s hs
    exact ⟨cv, hat⟩
  replace hcell := hide hcell
  have hrc := hide fun cv w1 (h : RdC w1 w1.heap.size cv s.cmps) => rasked_any s cv w1 h hcl
  obtain ⟨Ac, kc, hcve⟩ : ∃ A cap, cv = .slice A s.cmps.length cap := by
    obtain ⟨A, cap, b, off, e, -⟩ := hcv
    exact ⟨A, cap, e⟩
  subst hcve
  have hal := asked_len s.cmps s.cmps.length
  rw [List.take_of_length_le (Nat.le_refl _)] at hal
  have hv : rule7 p k s = (decide (s.cmps.length ≤ 4) && (asked s.cmps).all (askOk p k)) := rfl
  rw [hv]
  clear hv h5 h4 hs
  have hX := hide ((Below.refl w.heap.size w).alloc (Nat.le_refl _) (.cells #[.slice (some ⟨b, off, none⟩) p.length cap, .int .i64 win] 24))
  replace hcv := hide hcv
  replace hat := hide hat
  have hall : Hid (∀ n, n = asked s.cmps → n = asked s.cmps) := hide fun _ h => h
  generalize hL : asked s.cmps = L at *
  clear hL hall
  go_enter Tryz.func76, Tryz.ntmps76
  go_wp2_with (go_at_call 86; (with_reducible refine (hrc.out _ _ (RdC.below hcv.out hX.out (Below.size hX.out))).mono ?_); rintro e w1 ⟨⟨v1, rfl, hown⟩, hB1⟩; obtain ⟨A1, cap1, rfl⟩ := hown.form)
  have s0 : Below w.heap.size w w1 := hX.out.trans (hB1.mono (by simp))
  have s1 : w1.cell? ⟨w.heap.size, 0, none⟩ = some (.slice (some ⟨b, off, none⟩) p.length cap) := (hB1.cell (p := ⟨w.heap.size, 0, none⟩) (by simp)).trans (by simp)
  have s2 : w.heap.size < w1.heap.size := by have := hB1.size; simp at this; omega
  have hrd := hown.rd
  clear hB1 hown hrc hcv hX c0 c1 c2 c3 c4 c5
  obtain ⟨A2, cap2, b2, off2, e2, r2, r3, r4, r5⟩ := hrd
  obtain ⟨rfl, rfl⟩ : A1 = A2 ∧ cap1 = cap2 := by injection e2 with e1 _ e3; exact ⟨e1, e3⟩
  clear e2
  have hb1 : b < w1.heap.size := by omega
  go_loop [6] (fun i => ∃ m : Nat, m ≤ L.length ∧ i = .int .i64 m ∧ Hid ((L.take m).all (askOk p k) = true)) (fun i => L.length - (intOf i).toNat)
  case atStart => exact ⟨0, by omega, rfl, hide rfl⟩
  case round =>
    obtain ⟨m, hm, rfl, hyes⟩ := hrel
    by_cases hlm : m < L.length
    · obtain ⟨rfl, hb2⟩ := r4 (by omega)
      have hx := List.getElem?_eq_getElem hlm
      obtain ⟨vs, rfl, hat2⟩ := r5 m L[m] hx
      have d0 := hat2.c1
      simp only [Nat.mul_one] at d0
      have hn0 := hnn.out L[m] (List.getElem_mem hlm)
      have hsn := hide (askedOk_all hx hyes.out)
      have hno : Hid (askOk p k L[m] = false → (decide (s.cmps.length ≤ 4) && L.all (askOk p k)) = false) := hide fun h => by
        have : L.all (askOk p k) = false := all_take_false hx h
        simp [this]
      clear hat2 r5 hx hyes
      generalize L[m] = n at *
      rcases Int.lt_trichotomy n k with hc | hc | hc
      · obtain ⟨j, rfl⟩ : ∃ j : Nat, n = j := ⟨n.toNat, by omega⟩
        have hjl : j < p.length := by omega
        have hxj := List.getElem?_eq_getElem hjl
        obtain ⟨cvj, hatj⟩ := hcell.out j p[j] hxj
        obtain ⟨u0, -, -, u3, -, -⟩ := (hatj.below s0 hb).c6
        have hav : askOk p k j = (!p[j].neg && decide (p[j].max = 1)) := by
          have e1 : ¬ ((j : Int) = k) := by omega
          have e2 : (j : Int) < k := hc
          have e3 : stepAt p j = p[j] := by simp [stepAt, hxj]
          simp only [askOk, e1, e2, decide_false, decide_true, Bool.false_or, Bool.true_and, Int.toNat_natCast, e3]
        rw [hav] at hsn hno
        have hjp : (j : Int) < p.length := by omega
        clear hatj hxj hav
        generalize p[j] = t at *
        obtain ⟨tn, tk, tm, tx, tt, tc⟩ := t
        simp only at u0 u3 hsn hno
        cases tn with
        | true =>
          have hn2 := hide (hno.out rfl)
          clear hno hsn
          go_wp2
          go_ret
          exact ⟨ret_bool hn2.out.symm, s0⟩
        | false =>
          by_cases hx1 : tx = 1
          · subst hx1
            have hy2 : Hid ((L.take (m + 1)).all (askOk p k) = true) := hide (hsn.out.trans (by simp))
            clear hno hsn
            go_wp2
            go_round
            case rel => exact ⟨m + 1, by omega, rfl, hy2.out⟩
            case measure => simp [intOf]; omega
          · have d1 : (tx == 1) = false := by simpa using hx1
            have d2 : (tx != 1) = true := by simpa using hx1
            have hn2 := hide (hno.out (by simp [hx1]))
            clear hno hsn hx1
            go_wp2
            go_ret
            exact ⟨ret_bool hn2.out.symm, s0⟩
      · subst hc
        have hy2 : Hid ((L.take (m + 1)).all (askOk p k) = true) := hide (hsn.out.trans (by simp [askOk]))
        clear hno hsn
        go_wp2
        go_round
        case rel => exact ⟨m + 1, by omega, rfl, hy2.out⟩
        case measure => simp [intOf]; omega
      · have e1 : ¬ (n = (k : Int)) := by omega
        have e2 : ¬ (n < (k : Int)) := by omega
        have hn2 := hide (hno.out (by simp [askOk, e1, e2]))
        clear e1 e2
        clear hno hsn
        go_wp2
        go_ret
        exact ⟨ret_bool hn2.out.symm, s0⟩
    · obtain rfl : m = L.length := by omega
      have hA : Hid (L.all (askOk p k) = true) := hide (by have := hyes.out; rwa [List.take_of_length_le (Nat.le_refl _)] at this)
      obtain ⟨c0, c1, c2, c3, c4, c5⟩ := (hat.out.below s0 hb).c6
      clear hyes r4 r5 hcell hnn
      have hlt' : (k : Int) < p.length := by omega
      by_cases h4 : s.cmps.length ≤ 4
      · have h4' : (s.cmps.length : Int) ≤ 4 := by omega
        go_wp2
        go_ret
        exact ⟨ret_bool (by first | rfl | (rw [hA.out]; done) | (rw [hA.out]; simp [h4]; done)), s0⟩
      · have h4' : ¬ (s.cmps.length : Int) ≤ 4 := by omega
        go_wp2
        go_ret
        exact ⟨ret_bool (by first | rfl | (simp; omega)), s0⟩
end Go.Proofs.YtmmbblfmhcegcaaGreat
