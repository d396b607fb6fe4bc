/- The fourth and the seventh rule of the layer of checks: the walks. -/
import Derived.Test.YtidddeobachjgaaChA
import Derived.Test.YtidddeobachjgaaTrN
namespace Go.Proofs.Ytidddeobachjgaa
open Go.RowKit

set_option maxRecDepth 100000 in
set_option maxHeartbeats 2000000 in
theorem rule4_first (s : Sp) (cv : Value) (B : Nat) (w : World) :
    Calls Try.prog 73 #[.int .i64 0, spV s cv, .pointer (some ⟨B, 0, none⟩)] w fun e w' => e = .returned (.bool ((!s.neg || !s.strict) && (!s.neg || decide (s.min = 1 ∧ s.max = 1)))) ∧ Below w.heap.size w w' := by
  obtain ⟨neg, kind, mn, mx, strict, cmps⟩ := s
  cases neg <;> cases strict
  all_goals
    by_cases h1 : mn = 1
    · subst h1
      go_enter Try.func73, Try.ntmps73
      go_wp2
      go_ret
      exact ⟨ret_bool (by first | rfl | (simp; done) | (simp; rfl)), (Below.refl _ _).alloc (Nat.le_refl _) _⟩
    · have h1' : (mn == 1) = false := by simpa using h1
      go_enter Try.func73, Try.ntmps73
      go_wp2
      go_ret
      exact ⟨ret_bool (by first | rfl | (simp; done) | simp [h1]), (Below.refl _ _).alloc (Nat.le_refl _) _⟩

set_option maxRecDepth 100000 in
set_option maxHeartbeats 4000000 in
theorem rule4_later (p : List Sp) (win : Int) (j : Nat) (q s : Sp) (cv : Value) (B : Nat) (w : World) (h : PBox w B p win) (hq : p[j]? = some q) :
    Calls Try.prog 73 #[.int .i64 ((j : Int) + 1), spV s cv, .pointer (some ⟨B, 0, none⟩)] w fun e w' =>
      e = .returned (.bool (((!s.neg && !q.neg) || !s.strict) && (!s.neg || decide (s.min = 1 ∧ s.max = 1)))) ∧ Below w.heap.size w w' := by
  obtain ⟨sv, hb, A, cap, b, off, rfl, h2, h3, h4, h5⟩ := h.box
  have hj := (List.getElem?_eq_some_iff.1 hq).1
  obtain ⟨rfl, hlt⟩ := h4 (by omega)
  obtain ⟨cs, ⟨cv', rfl, hcv⟩, hat⟩ := h5 j q hq
  obtain ⟨c0, c1, c2, c3, c4, c5⟩ := hat.c6
  have e0 : w.cell? ⟨B, 0, none⟩ = some (.slice (some ⟨b, off, none⟩) p.length cap) := hb.cell 0
  have hbl := hb.lt
  clear hcv hat h5 hb hq
  have hj' : (j : Int) < p.length := by omega
  have hj'' : ((j : Int) + 1 == 0) = false := by simp; omega
  have hw1 : IntKind.i64.wrap ((j : Int) + 1 - 1) = j := by rw [show (j : Int) + 1 - 1 = j by omega]; exact IntWalk.i64_in _ (by omega)
  obtain ⟨neg, kind, mn, mx, strict, cmps⟩ := s
  obtain ⟨qneg, qkind, qmn, qmx, qstrict, qcmps⟩ := q
  simp only at c0 c1 c2 c3 c4 c5
  cases neg <;> cases strict <;> cases qneg
  all_goals
    by_cases h1 : mn = 1
    · subst h1
      go_enter Try.func73, Try.ntmps73
      go_wp2
      go_ret
      exact ⟨ret_bool (by first | rfl | (simp; done) | (simp; rfl)), (Below.refl _ _).alloc (Nat.le_refl _) _⟩
    · have h1' : (mn == 1) = false := by simpa using h1
      go_enter Try.func73, Try.ntmps73
      go_wp2
      go_ret
      exact ⟨ret_bool (by first | rfl | (simp; done) | simp [h1]), (Below.refl _ _).alloc (Nat.le_refl _) _⟩

theorem rule4_any (p : List Sp) (win : Int) (k : Nat) (s : Sp) (cv : Value) (B : Nat) (w : World) (h : PBox w B p win) (hs : p[k]? = some s) :
    Calls Try.prog 73 #[.int .i64 k, spV s cv, .pointer (some ⟨B, 0, none⟩)] w fun e w' => e = .returned (.bool (rule4 p k s)) ∧ Below w.heap.size w w' := by
  cases k with
  | zero =>
    have := rule4_first s cv B w
    simpa [rule4] using this
  | succ j =>
    have hj : j < p.length := by have := (List.getElem?_eq_some_iff.1 hs).1; omega
    have := rule4_later p win j p[j] s cv B w h (List.getElem?_eq_getElem hj)
    have hst : stepAt p j = p[j] := by simp [stepAt, List.getElem?_eq_getElem hj]
    have hr : rule4 p (j + 1) s = (((!s.neg && !p[j].neg) || !s.strict) && (!s.neg || decide (s.min = 1 ∧ s.max = 1))) := by
      simp [rule4, hst]
    rw [hr]
    exact this

set_option maxRecDepth 100000 in
set_option maxHeartbeats 4000000 in
theorem rule7_any (p : List Sp) (win : Int) (k : Nat) (s : Sp) (cv : Value) (B : Nat) (w : World) (h : PBox w B p win) (hs : p[k]? = some s) (hcv : RdC w w.heap.size cv s.cmps) (h0 : ∀ n ∈ asked s.cmps, 0 ≤ n) :
    Calls Try.prog 76 #[.int .i64 k, spV s cv, .pointer (some ⟨B, 0, none⟩)] w fun e w' => e = .returned (.bool (rule7 p k s)) ∧ Below w.heap.size w w' := by
  obtain ⟨Ac, kc, rfl⟩ : ∃ A cap, cv = .slice A s.cmps.length cap := by
    obtain ⟨A, cap, b, off, rfl, -⟩ := hcv
    exact ⟨A, cap, rfl⟩
  have hkl := (List.getElem?_eq_some_iff.1 hs).1
  have hll : s.cmps.length ≤ 9223372036854775807 := RdL.lenle hcv
  by_cases h4 : 4 < s.cmps.length
  · have hv : rule7 p k s = false := by simp [rule7]; omega
    rw [hv]; clear hv
    have h4' : (4 : Int) < s.cmps.length := by omega
    go_enter Try.func76, Try.ntmps76
    go_wp2
    go_ret
    exact ⟨rfl, (Below.refl _ _).alloc (Nat.le_refl _) _⟩
  have hv : rule7 p k s = (asked s.cmps).all (askOk p k) := by simp [rule7]; omega
  rw [hv]; clear hv
  have hask := hide fun w1 (hb : Below w.heap.size w w1) => asked_any s _ w1 (RdC.below hcv hb hb.size) (by omega)
  replace h4 : (s.cmps.length : Int) ≤ 4 := by omega
  obtain ⟨sv, hb, A, cap, b, off, rfl, g2, g3, g4, g5⟩ := h.box
  obtain ⟨rfl, hlt⟩ := g4 (by omega)
  have e0 : w.cell? ⟨B, 0, none⟩ = some (.slice (some ⟨b, off, none⟩) p.length cap) := hb.cell 0
  have hbl := hb.lt
  clear hb hcv hs g4 h
  go_enter Try.func76, Try.ntmps76
  go_wp2_with (go_at_call 19; (with_reducible refine (hask.out _ ((Below.refl _ _).alloc (Nat.le_refl _) _)).mono ?_); rintro e w1 ⟨⟨v1, rfl, hown⟩, hB1⟩; obtain ⟨A1, cap1, rfl⟩ := hown.form)
  have s0 : Below w.heap.size w w1 := ((Below.refl _ _).alloc (Nat.le_refl _) _).trans (hB1.mono (by simp))
  have hrd := hown.rd
  obtain ⟨A2, cap2, b2, off2, e2, r2, r3, r4, r5⟩ := hrd
  obtain ⟨rfl, rfl⟩ : A1 = A2 ∧ cap1 = cap2 := by injection e2 with e1 _ e3; exact ⟨e1, e3⟩
  have hz := s0.size
  have h0h := hide h0
  clear e2 hown hask hB1 h0
  generalize hL : asked s.cmps = l at *
  have hLh := hide hL
  clear hL
  go_loopw [15] (fun i wr => ∃ m : Nat, m ≤ l.length ∧ i = .int .i64 m ∧ Hid ((l.take m).all (askOk p k) = true) ∧ Below w1.heap.size w1 wr) (fun i _ => l.length - (intOf i).toNat)
  case atStart => exact ⟨0, by omega, rfl, hide rfl, Below.refl _ _⟩
  case round =>
    obtain ⟨m, hm, rfl, hall, hB⟩ := hrel
    have s1 := s0.trans (hB.mono hz)
    by_cases hlm : m < l.length
    · obtain ⟨rfl, hb2⟩ := r4 (by omega)
      have hx := List.getElem?_eq_getElem hlm
      obtain ⟨vs, rfl, hat⟩ := r5 m l[m] hx
      have d0 := (hat.below hB hb2).c1
      simp only [Nat.mul_one] at d0
      have hn0 := h0h.out l[m] (by simp)
      have hyes : askOk p k l[m] = true → Hid ((l.take (m + 1)).all (askOk p k) = true) := fun h => hide (by rw [all_snoc hx, hall.out, h]; rfl)
      have hno : askOk p k l[m] = false → Hid (l.all (askOk p k) = false) := fun h => hide (all_take_false hx h)
      have hyes := hide hyes
      have hno := hide hno
      clear hat hx r5 hall
      have f0 := (s1.cell (p := ⟨B, 0, none⟩) hbl).trans e0
      generalize l[m] = n at *
      by_cases hnk : n = k
      · have hy := hyes.out (by simp [askOk, hnk])
        have t1 : (n == (k : Int)) = true := by simpa using hnk
        have t2 : (n != (k : Int)) = false := by simpa using hnk
        clear hyes hno hnk g5
        go_wp2
        exact ⟨⟨m + 1, by omega, rfl, hy, hB⟩, by simp [intOf]; omega⟩
      have t1 : (n == (k : Int)) = false := by simpa using hnk
      have t2 : (n != (k : Int)) = true := by simpa using hnk
      by_cases hgt : (k : Int) < n
      · have hn := hno.out (by simp [askOk, hnk]; omega)
        clear hyes hno hnk g5
        go_wp2
        go_ret
        exact ⟨ret_bool (by rw [hLh.out]; exact hn.out.symm), s1⟩
      obtain ⟨j, rfl⟩ : ∃ j : Nat, n = j := ⟨n.toNat, by omega⟩
      have hj : j < p.length := by omega
      obtain ⟨cs, ⟨cv', rfl, -⟩, hat⟩ := g5 j p[j] (List.getElem?_eq_getElem hj)
      obtain ⟨c0, c1, c2, c3, c4, c5⟩ := (hat.below s1 hlt).c6
      have hst : stepAt p j = p[j] := by simp [stepAt, List.getElem?_eq_getElem hj]
      have hok : askOk p k (j : Int) = (!p[j].neg && decide (p[j].max = 1)) := by
        have : (j : Int) < k := by omega
        simp [askOk, hst, hnk, this]
      rw [hok] at hyes hno
      clear hok hst hat hnk g5
      have hj' : (j : Int) < p.length := by omega
      replace hgt := Int.not_lt.1 hgt
      generalize p[j] = q at *
      obtain ⟨qneg, qkind, qmn, qmx, qstrict, qcmps⟩ := q
      simp only at c0 c1 c2 c3 c4 c5 hyes hno
      cases qneg with
      | true =>
        have hn := hno.out rfl
        clear hyes hno
        go_wp2
        go_ret
        exact ⟨ret_bool (by rw [hLh.out]; exact hn.out.symm), s1⟩
      | false =>
        by_cases hq1 : qmx = 1
        · have hy := hyes.out (by simp [hq1])
          subst hq1
          clear hyes hno
          go_wp2
          exact ⟨⟨m + 1, by omega, rfl, hy, hB⟩, by simp [intOf]; omega⟩
        · have hn := hno.out (by simp [hq1])
          have t3 : (qmx == 1) = false := by simpa using hq1
          have t4 : (qmx != 1) = true := by simpa using hq1
          clear hyes hno hq1
          go_wp2
          go_ret
          exact ⟨ret_bool (by rw [hLh.out]; exact hn.out.symm), s1⟩
    · obtain rfl : m = l.length := by omega
      have hi : Hid (l.all (askOk p k) = true) := hide (by rw [List.take_of_length_le (Nat.le_refl _)] at hall; exact hall.out)
      clear hall g5 r5
      go_wp2
      go_ret
      exact ⟨ret_bool (by rw [hLh.out]; exact hi.out.symm), s1⟩
end Go.Proofs.Ytidddeobachjgaa
