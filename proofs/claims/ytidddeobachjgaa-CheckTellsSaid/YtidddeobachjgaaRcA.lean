/- The rules of the reference's layer of checks, one by one: the walks. -/
import Derived.Test.YtidddeobachjgaaRaB
import Derived.Test.YtidddeobachjgaaPlV
import Derived.Test.YtidddeobachjgaaTrE
namespace Go.Proofs.Ytidddeobachjgaa
open Go.RowKit

theorem rone_any (p : List Sp) (win : Int) (sv : Value) (w : World) (h : RdS w w.heap.size sv p) :
    Calls Try.prog 77 #[ptV sv win] w fun e w' => e = .returned (.int .i64 (whole (rule1 p win))) ∧ Below w.heap.size w w' := by
  have hll := RdL.lenle h
  obtain ⟨A, cap, rfl⟩ := h.len
  clear h
  by_cases hn : p.length ≤ 6
  · have hn' : (p.length : Int) ≤ 6 := by omega
    by_cases hw : win ≤ 1073741824
    · have hv : whole (rule1 p win) = -1 := by simp [rule1, hn, hw, whole]
      rw [hv]
      clear hv hn
      go_enter Try.func77, Try.ntmps77
      go_wp2
      go_ret
      exact ⟨rfl, (Below.refl _ _).alloc (Nat.le_refl _) _⟩
    · have hv : whole (rule1 p win) = 0 := by simp [rule1, hw, whole]
      rw [hv]
      replace hw : 1073741824 < win := by omega
      clear hv hn
      go_enter Try.func77, Try.ntmps77
      go_wp2
      go_ret
      exact ⟨rfl, (Below.refl _ _).alloc (Nat.le_refl _) _⟩
  · have hv : whole (rule1 p win) = 0 := by simp [rule1, hn, whole]
    rw [hv]
    have hn' : 6 < (p.length : Int) := by omega
    clear hv hn
    go_enter Try.func77, Try.ntmps77
    go_wp2
    go_ret
    exact ⟨rfl, (Below.refl _ _).alloc (Nat.le_refl _) _⟩

theorem rtwo_any (p : List Sp) (win : Int) (sv : Value) (w : World) (h : RdS w w.heap.size sv p) (h0 : 0 < p.length) :
    Calls Try.prog 78 #[ptV sv win] w fun e w' => e = .returned (.int .i64 (whole (rule2 p))) ∧ Below w.heap.size w w' := by
  obtain ⟨A, cap, b, off, rfl, h2, h3, h4, h5⟩ := h
  obtain ⟨rfl, hlt⟩ := h4 h0
  have hx := List.getElem?_eq_getElem h0
  obtain ⟨cs, ⟨cv, rfl, hcv⟩, hat⟩ := h5 0 p[0] hx
  obtain ⟨c0, c1, c2, c3, c4, c5⟩ := hat.c6
  have hst : stepAt p 0 = p[0] := by simp [stepAt, hx]
  have hr : rule2 p = (!p[0].neg && !p[0].strict) := by simp [rule2, hst]
  rw [hr]
  clear hr hst hcv hat h5 hx h4
  simp only [Nat.zero_mul, Nat.add_zero] at c0 c1 c2 c3 c4 c5
  have h0' : (0 : Int) < p.length := by omega
  generalize p[0] = s at *
  obtain ⟨neg, kind, mn, mx, strict, cmps⟩ := s
  simp only at c0 c1 c2 c3 c4 c5
  cases neg <;> cases strict
  all_goals
    go_enter Try.func78, Try.ntmps78
    go_wp2
    go_ret
    exact ⟨rfl, (Below.refl _ _).alloc (Nat.le_refl _) _⟩

set_option maxHeartbeats 1000000 in
theorem rsix_any (p : List Sp) (win : Int) (sv : Value) (w : World) (h : RdS w w.heap.size sv p) (hr : rightB p win = true) :
    Calls Try.prog 79 #[ptV sv win] w fun e w' => e = .returned (.int .i64 (whole (rule6 p))) ∧ Below w.heap.size w w' := by
  obtain ⟨h0, h26, hmx⟩ := right_parts hr
  have hbd := hide fun k => long_bd_take hmx h26 k
  have hv : rule6 p = decide (longF p ≤ 4) := rfl
  rw [hv]
  clear hmx hr hv
  obtain ⟨A, cap, b, off, rfl, h2, h3, h4, h5⟩ := h
  obtain ⟨rfl, hb⟩ := h4 h0
  clear h4
  go_enter Try.func79, Try.ntmps79
  go_wp2
  go_loopw [3, 4] (fun x i wr => ∃ k : Nat, k ≤ p.length ∧ i = .int .i64 k ∧ x = .int .i64 (longF (p.take k)) ∧ Below w.heap.size w wr ∧ wr.cell? ⟨w.heap.size, 0, none⟩ = some (.slice (some ⟨b, off, none⟩) p.length cap)) (fun _ i _ => p.length - (intOf i).toNat)
  case atStart => exact ⟨0, by omega, rfl, by simp [longF], (Below.refl _ _).alloc (Nat.le_refl _) _, by simp⟩
  case round =>
    obtain ⟨k, hk, rfl, rfl, hB, hbx⟩ := hrel
    by_cases hlt : k < p.length
    · have hx := List.getElem?_eq_getElem hlt
      obtain ⟨cs, ⟨cv, rfl, hcv⟩, hat⟩ := h5 k p[k] hx
      obtain ⟨c0, c1, c2, c3, c4, c5⟩ := (hat.below hB hb).c6
      have hsn := hide (long_snoc hx)
      obtain ⟨q1, q2⟩ := hbd.out k
      obtain ⟨q3, q4⟩ := hbd.out (k + 1)
      rw [long_snoc hx] at q3 q4
      clear hat h5 hcv hx
      generalize p[k] = s at *
      generalize longF (p.take k) = x at *
      obtain ⟨neg, kind, mn, mx, strict, cmps⟩ := s
      simp only at c0 c1 c2 c3 c4 c5 hsn q3 q4
      cases neg with
      | true =>
        simp only [if_true] at hsn
        clear q3 q4
        go_wp2
        exact ⟨⟨k + 1, by omega, rfl, by rw [hsn.out, Int.add_zero], hB, hbx⟩, by simp [intOf]; omega⟩
      | false =>
        simp only [Bool.false_eq_true, if_false] at hsn q3 q4
        have hw2 : IntKind.i64.wrap (x + mx) = x + mx := IntWalk.i64_in _ (by omega)
        go_wp2
        exact ⟨⟨k + 1, by omega, rfl, by rw [hsn.out], hB, hbx⟩, by simp [intOf]; omega⟩
    · obtain rfl : k = p.length := by omega
      rw [List.take_of_length_le (Nat.le_refl _)]
      clear h5 hbd
      by_cases h4 : longF p ≤ 4
      · have hd : Hid (decide (longF p ≤ 4) = true) := hide (by simpa using h4)
        go_wp2
        go_ret
        exact ⟨by rw [hd.out]; rfl, hB⟩
      · have hd : Hid (decide (longF p ≤ 4) = false) := hide (by simpa using h4)
        replace h4 : 4 < longF p := by omega
        go_wp2
        go_ret
        exact ⟨by rw [hd.out]; rfl, hB⟩

theorem rthree_any (p : List Sp) (win : Int) (k : Nat) (s : Sp) (sv : Value) (w : World) (h : RdS w w.heap.size sv p) (hs : p[k]? = some s) :
    Calls Try.prog 93 #[ptV sv win, .int .i64 k] w fun e w' => e = .returned (.bool (rule3 p k s)) ∧ Below w.heap.size w w' := by
  have hlt := (List.getElem?_eq_some_iff.1 hs).1
  obtain ⟨A, cap, b, off, rfl, h2, h3, h4, h5⟩ := h
  obtain ⟨rfl, hb⟩ := h4 (by omega)
  obtain ⟨cs, ⟨cv, rfl, hcv⟩, hat⟩ := h5 k s hs
  obtain ⟨c0, c1, c2, c3, c4, c5⟩ := hat.c6
  have hv : rule3 p k s = decide (s.kind < 6) := rfl
  rw [hv]
  clear hv h5 hat hcv hs h4
  go_enter Try.func93, Try.ntmps93
  go_wp2
  go_ret
  exact ⟨rfl, (Below.refl _ _).alloc (Nat.le_refl _) _⟩

set_option maxHeartbeats 2000000 in
theorem rfour_any (p : List Sp) (win : Int) (k : Nat) (s : Sp) (sv : Value) (w : World) (h : RdS w w.heap.size sv p) (hs : p[k]? = some s) :
    Calls Try.prog 94 #[ptV sv win, .int .i64 k] w fun e w' => e = .returned (.bool (rule4 p k s)) ∧ Below w.heap.size w w' := by
  have hlt := (List.getElem?_eq_some_iff.1 hs).1
  obtain ⟨A, cap, b, off, rfl, h2, h3, h4, h5⟩ := h
  obtain ⟨rfl, hb⟩ := h4 (by omega)
  obtain ⟨cs, ⟨cv, rfl, hcv⟩, hat⟩ := h5 k s hs
  obtain ⟨c0, c1, c2, c3, c4, c5⟩ := hat.c6
  obtain ⟨Ac, kc, hcve⟩ : ∃ A cap, cv = .slice A s.cmps.length cap := by
    obtain ⟨A, cap, b, off, e, -⟩ := hcv
    exact ⟨A, cap, e⟩
  subst hcve
  have hprev : ∀ j, k = j + 1 → w.cell? ⟨b, off + j * 6, none⟩ = some (.bool (stepAt p (k - 1)).neg) := fun j hj => by
    have hjl : j < p.length := by omega
    have hxj := List.getElem?_eq_getElem hjl
    obtain ⟨cs', ⟨cv', rfl, -⟩, hat'⟩ := h5 j p[j] hxj
    have := hat'.c6.1
    rw [this, hj]
    simp [stepAt, hxj]
  replace hprev := hide hprev
  have hr4 : rule4 p k s = (((!s.neg && (decide (k = 0) || !(stepAt p (k - 1)).neg)) || !s.strict) && (!s.neg || decide (s.min = 1 ∧ s.max = 1))) := rfl
  rw [hr4]
  clear hr4 h5 hat hcv hs h4
  generalize (stepAt p (k - 1)).neg = pn at *
  obtain ⟨neg, kind, mn, mx, strict, cmps⟩ := s
  simp only at c0 c1 c2 c3 c4 c5
  cases neg with
  | true =>
    by_cases hm : mn = 1
    · subst hm
      by_cases hx : mx = 1
      · subst hx
        cases strict with
        | true =>
          clear hprev
          go_enter Try.func94, Try.ntmps94
          go_wp2
          go_ret
          exact ⟨ret_bool (by simp), ((Below.refl _ _).alloc (Nat.le_refl _) _).alloc (by simp) _⟩
        | false =>
          rcases Nat.eq_zero_or_pos k with rfl | hk
          · clear hprev
            rw [show ((0 : Nat) : Int) = 0 from rfl]
            simp only [Nat.zero_mul, Nat.add_zero] at c0 c1 c2 c3 c4 c5
            have h0' : (0 : Int) < p.length := by omega
            go_enter Try.func94, Try.ntmps94
            go_wp2
            go_ret
            exact ⟨ret_bool (by simp), ((Below.refl _ _).alloc (Nat.le_refl _) _).alloc (by simp) _⟩
          · obtain ⟨j, rfl⟩ : ∃ j, k = j + 1 := ⟨k - 1, by omega⟩
            have d0 := hprev.out j rfl
            clear hprev
            cases pn
            all_goals
              go_enter Try.func94, Try.ntmps94
              go_wp2
              go_ret
              exact ⟨ret_bool (by simp), ((Below.refl _ _).alloc (Nat.le_refl _) _).alloc (by simp) _⟩
      · have d1 : (mx == 1) = false := by simpa using hx
        have d2 : (mx != 1) = true := by simpa using hx
        clear hprev
        go_enter Try.func94, Try.ntmps94
        go_wp2
        go_ret
        exact ⟨ret_bool (by simp [hx]), ((Below.refl _ _).alloc (Nat.le_refl _) _).alloc (by simp) _⟩
    · have d1 : (mn == 1) = false := by simpa using hm
      have d2 : (mn != 1) = true := by simpa using hm
      clear hprev
      go_enter Try.func94, Try.ntmps94
      go_wp2
      go_ret
      exact ⟨ret_bool (by simp [hm]), ((Below.refl _ _).alloc (Nat.le_refl _) _).alloc (by simp) _⟩
  | false =>
    rcases Nat.eq_zero_or_pos k with rfl | hk
    · clear hprev
      rw [show ((0 : Nat) : Int) = 0 from rfl]
      simp only [Nat.zero_mul, Nat.add_zero] at c0 c1 c2 c3 c4 c5
      have h0' : (0 : Int) < p.length := by omega
      go_enter Try.func94, Try.ntmps94
      go_wp2
      go_ret
      exact ⟨ret_bool (by simp), ((Below.refl _ _).alloc (Nat.le_refl _) _).alloc (by simp) _⟩
    · obtain ⟨j, rfl⟩ : ∃ j, k = j + 1 := ⟨k - 1, by omega⟩
      have d0 := hprev.out j rfl
      clear hprev
      cases pn <;> cases strict
      all_goals
        go_enter Try.func94, Try.ntmps94
        go_wp2
        go_ret
        exact ⟨ret_bool (by first | (simp; done) | (simp; omega)), ((Below.refl _ _).alloc (Nat.le_refl _) _).alloc (by simp) _⟩

set_option maxHeartbeats 1000000 in
theorem rfive_any (p : List Sp) (win : Int) (k : Nat) (s : Sp) (sv : Value) (w : World) (h : RdS w w.heap.size sv p) (hs : p[k]? = some s) :
    Calls Try.prog 95 #[ptV sv win, .int .i64 k] w fun e w' => e = .returned (.bool (rule5 p k s)) ∧ Below w.heap.size w w' := by
  have hlt := (List.getElem?_eq_some_iff.1 hs).1
  obtain ⟨A, cap, b, off, rfl, h2, h3, h4, h5⟩ := h
  obtain ⟨rfl, hb⟩ := h4 (by omega)
  obtain ⟨cs, ⟨cv, rfl, hcv⟩, hat⟩ := h5 k s hs
  obtain ⟨c0, c1, c2, c3, c4, c5⟩ := hat.c6
  obtain ⟨Ac, kc, hcve⟩ : ∃ A cap, cv = .slice A s.cmps.length cap := by
    obtain ⟨A, cap, b, off, e, -⟩ := hcv
    exact ⟨A, cap, e⟩
  subst hcve
  have hv : rule5 p k s = (s.neg || decide (0 < s.min ∧ s.min ≤ s.max ∧ s.max ≤ 3)) := rfl
  rw [hv]
  clear hv h5 hat hcv hs h4
  obtain ⟨neg, kind, mn, mx, strict, cmps⟩ := s
  simp only at c0 c1 c2 c3 c4 c5
  cases neg
  · by_cases h1 : 1 ≤ mn
    · by_cases h2 : mn ≤ mx
      · go_enter Try.func95, Try.ntmps95
        go_wp2
        go_ret
        exact ⟨ret_bool (by simp [h2]; intro _; omega), ((Below.refl _ _).alloc (Nat.le_refl _) _).alloc (by simp) _⟩
      · go_enter Try.func95, Try.ntmps95
        go_wp2
        go_ret
        exact ⟨ret_bool (by simp; omega), ((Below.refl _ _).alloc (Nat.le_refl _) _).alloc (by simp) _⟩
    · go_enter Try.func95, Try.ntmps95
      go_wp2
      go_ret
      exact ⟨ret_bool (by simp; omega), ((Below.refl _ _).alloc (Nat.le_refl _) _).alloc (by simp) _⟩
  · go_enter Try.func95, Try.ntmps95
    go_wp2
    go_ret
    exact ⟨rfl, ((Below.refl _ _).alloc (Nat.le_refl _) _).alloc (by simp) _⟩
end Go.Proofs.Ytidddeobachjgaa
