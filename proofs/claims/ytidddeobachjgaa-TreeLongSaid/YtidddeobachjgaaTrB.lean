/- What the tests of terms and comparisons tell (the references' too); sizes; what is too great. -/
import Derived.Test.YtidddeobachjgaaTrA
namespace Go.Proofs.Ytidddeobachjgaa
open Go.RowKit

set_option maxHeartbeats 2000000 in
theorem rterm_any (k n s r : Int) (w : World) : Calls Try.prog 38 #[.agg #[.int .u8 k, .int .i64 n, .int .i64 s, .int .i64 r]] w fun e w' => e = .returned (.bool (Tm.ok ⟨k, n, s, r⟩)) ∧ Below w.heap.size w w' := by
  by_cases h1 : 7 ≤ k
  · have hf : Tm.ok ⟨k, n, s, r⟩ = false := by simp [Tm.ok]; omega
    rw [hf]; clear hf
    go_enter Try.func38, Try.ntmps38
    go_wp2
    go_ret
    exact ⟨rfl, (Below.refl _ _).alloc (Nat.le_refl _) _⟩
  replace h1 := Int.not_le.1 h1
  by_cases h2 : n < -1099511627776
  · have hf : Tm.ok ⟨k, n, s, r⟩ = false := by simp [Tm.ok]; omega
    rw [hf]; clear hf
    go_enter Try.func38, Try.ntmps38
    go_wp2
    go_ret
    exact ⟨rfl, (Below.refl _ _).alloc (Nat.le_refl _) _⟩
  replace h2 := Int.not_lt.1 h2
  by_cases h3 : 1099511627776 < n
  · have hf : Tm.ok ⟨k, n, s, r⟩ = false := by simp [Tm.ok]; omega
    rw [hf]; clear hf
    go_enter Try.func38, Try.ntmps38
    go_wp2
    go_ret
    exact ⟨rfl, (Below.refl _ _).alloc (Nat.le_refl _) _⟩
  replace h3 := Int.not_lt.1 h3
  by_cases h4 : s < 0
  · have hf : Tm.ok ⟨k, n, s, r⟩ = false := by simp [Tm.ok]; omega
    rw [hf]; clear hf
    go_enter Try.func38, Try.ntmps38
    go_wp2
    go_ret
    exact ⟨rfl, (Below.refl _ _).alloc (Nat.le_refl _) _⟩
  replace h4 := Int.not_lt.1 h4
  by_cases h5 : 26 ≤ s
  · have hf : Tm.ok ⟨k, n, s, r⟩ = false := by simp [Tm.ok]; omega
    rw [hf]; clear hf
    go_enter Try.func38, Try.ntmps38
    go_wp2
    go_ret
    exact ⟨rfl, (Below.refl _ _).alloc (Nat.le_refl _) _⟩
  replace h5 := Int.not_le.1 h5
  by_cases h6 : r < 0
  · have hf : Tm.ok ⟨k, n, s, r⟩ = false := by simp [Tm.ok]; omega
    rw [hf]; clear hf
    go_enter Try.func38, Try.ntmps38
    go_wp2
    go_ret
    exact ⟨rfl, (Below.refl _ _).alloc (Nat.le_refl _) _⟩
  replace h6 := Int.not_lt.1 h6
  by_cases h7 : 26 ≤ r
  · have hf : Tm.ok ⟨k, n, s, r⟩ = false := by simp [Tm.ok]; omega
    rw [hf]; clear hf
    go_enter Try.func38, Try.ntmps38
    go_wp2
    go_ret
    exact ⟨rfl, (Below.refl _ _).alloc (Nat.le_refl _) _⟩
  replace h7 := Int.not_le.1 h7
  by_cases hk : k = 0
  · subst hk
    by_cases hs : s = 0
    · subst hs
      go_enter Try.func38, Try.ntmps38
      go_wp2
      all_goals go_ret
      all_goals refine ⟨ret_bool (by simp [Tm.ok, *]; try first | omega | rfl | (by_cases hq : r = 0 <;> simp [hq])), (Below.refl _ _).alloc (Nat.le_refl _) _⟩
    · have hs' : (s == 0) = false := by simpa using hs
      go_enter Try.func38, Try.ntmps38
      go_wp2
      all_goals go_ret
      all_goals refine ⟨ret_bool (by simp [Tm.ok, *]; try first | omega | rfl | (by_cases hq : r = 0 <;> simp [hq])), (Below.refl _ _).alloc (Nat.le_refl _) _⟩
  have hk' : (k == 0) = false := by simpa using hk
  have hk'' : (k != 0) = true := by simpa using hk
  by_cases h5 : k = 5
  · subst h5
    clear hk hk' hk''
    go_enter Try.func38, Try.ntmps38
    go_wp2
    all_goals go_ret
    all_goals refine ⟨ret_bool (by simp [Tm.ok, *]; try first | omega | rfl | (by_cases hq : r = 0 <;> simp [hq])), (Below.refl _ _).alloc (Nat.le_refl _) _⟩
  have h5' : (k == 5) = false := by simpa using h5
  by_cases h6 : k = 6
  · subst h6
    clear hk hk' hk'' h5 h5'
    go_enter Try.func38, Try.ntmps38
    go_wp2
    all_goals go_ret
    all_goals refine ⟨ret_bool (by simp [Tm.ok, *]; try first | omega | rfl | (by_cases hq : r = 0 <;> simp [hq])), (Below.refl _ _).alloc (Nat.le_refl _) _⟩
  have h6' : (k == 6) = false := by simpa using h6
  · skip
    go_enter Try.func38, Try.ntmps38
    go_wp2
    all_goals go_ret
    all_goals refine ⟨ret_bool (by simp [Tm.ok, *]; try first | omega | rfl | (by_cases hq : r = 0 <;> simp [hq])), (Below.refl _ _).alloc (Nat.le_refl _) _⟩

theorem tmc (t : Tm) : t = ⟨t.k, t.n, t.s, t.r⟩ := rfl
theorem term_c (t : Tm) (w : World) : Calls Try.prog 60 #[tmV t] w fun e w' => e = .returned (.bool t.ok) ∧ Below w.heap.size w w' := term_any t.k t.n t.s t.r w
theorem rterm_c (t : Tm) (w : World) : Calls Try.prog 38 #[tmV t] w fun e w' => e = .returned (.bool t.ok) ∧ Below w.heap.size w w' := rterm_any t.k t.n t.s t.r w

set_option maxHeartbeats 2000000 in
theorem cmp_any (c : Cm) (w : World) : Calls Try.prog 43 #[cmV c] w fun e w' => e = .returned (.bool (!c.ok)) ∧ Below w.heap.size w w' := by
  obtain ⟨op, l, r⟩ := c
  have hl := hide (term_c l)
  have hr := hide (term_c r)
  by_cases h0 : op = 0
  · subst h0
    go_enter Try.func43, Try.ntmps43
    go_wp2
    go_ret
    exact ⟨ret_bool (by simp [Cm.ok]), (Below.refl _ _).alloc (Nat.le_refl _) _⟩
  have h0' : (op == 0) = false := by simpa using h0
  by_cases h7 : 7 ≤ op
  · go_enter Try.func43, Try.ntmps43
    go_wp2
    go_ret
    exact ⟨ret_bool (by simp [Cm.ok]; omega), (Below.refl _ _).alloc (Nat.le_refl _) _⟩
  replace h7 := Int.not_le.1 h7
  have hv : Cm.ok ⟨op, l, r⟩ = (l.ok && r.ok) := by simp [Cm.ok, h0, h7]
  rw [hv]; clear hv h0
  have hd : decide (7 ≤ op) = false := by simp; omega
  generalize l.ok = bl at *
  generalize r.ok = br at *
  cases bl <;> cases br
  all_goals
    go_enter Try.func43, Try.ntmps43
    go_wp2_with (first | (go_at_call 60; (with_reducible refine (stayf (G := w.heap.size + 1) (hl.out _) (by first | assumption | (simp; done))).mono ?_); rintro e w1 ⟨rfl, hc1, hf1, hz1, hB1⟩) | (go_at_call 60; (with_reducible refine (stayf (G := w.heap.size + 1) (hr.out _) (by first | assumption | (simp; done))).mono ?_); rintro e w2 ⟨rfl, hc2, hf2, hz2, hB2⟩))
    go_ret
    refine ⟨rfl, ?_⟩
    repeat (first | exact Below.refl _ _ | refine Below.trans ?_ (Below.mono (Hid.out ‹Hid (Below _ _ _)›) (by first | omega | (simp; omega))) | refine Below.setCell ?_ (by first | omega | (simp; done) | (simp; omega)) _ | refine Below.alloc ?_ (by first | omega | (simp; done) | (simp; omega)) _ | refine Below.drew ?_)
end Go.Proofs.Ytidddeobachjgaa
