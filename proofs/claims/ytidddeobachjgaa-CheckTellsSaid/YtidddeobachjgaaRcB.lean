/- The reference's layer of checks: the seventh rule, which rule is not kept first, tails and heads: the walks. -/
import Derived.Test.YtidddeobachjgaaRcA
import Derived.Test.YtidddeobachjgaaTrF
import Derived.Test.YtidddeobachjgaaPlU
namespace Go.Proofs.Ytidddeobachjgaa
open Go.RowKit

theorem askedOk_all {p : List Sp} {i : Nat} {l : List Int} {k : Nat} {x : Int} (hx : l[k]? = some x) (h : (l.take k).all (askOk p i) = true) : (l.take (k + 1)).all (askOk p i) = askOk p i x := by
  simp [List.take_add_one, hx, List.all_append, h]
theorem names_nonneg {p : List Sp} {win : Int} (h : rightB p win = true) {k : Nat} {s : Sp} (hs : p[k]? = some s) : ∀ n ∈ asked s.cmps, 0 ≤ n := by
  simp only [rightB, Bool.and_eq_true, List.all_eq_true, Sp.ok] at h
  have hc := (h.2 s (List.mem_of_getElem? hs)).2
  intro n hn
  rw [mem_asked] at hn
  obtain ⟨c, hcm, hn⟩ := List.mem_flatMap.1 hn
  have hok := hc c hcm
  simp only [Cm.ok, Bool.and_eq_true] at hok
  rcases List.mem_append.1 hn with h | h
  · exact (right_term hok.1.2 h).1
  · exact (right_term hok.2 h).1

set_option maxRecDepth 100000 in
set_option maxHeartbeats 4000000 in
theorem rseven_any (p : List Sp) (win : Int) (k : Nat) (s : Sp) (sv : Value) (w : World) (h : RdS w w.heap.size sv p) (hs : p[k]? = some s) (hr : rightB p win = true) (hcl : s.cmps.length ≤ 1000) :
    Calls Try.prog 96 #[ptV sv win, .int .i64 k] w fun e w' => e = .returned (.bool (rule7 p k s)) ∧ Below w.heap.size w w' := by
  have hlt := (List.getElem?_eq_some_iff.1 hs).1
  have hnn := hide (names_nonneg hr hs)
  clear hr
  obtain ⟨A, cap, b, off, rfl, h2, h3, h4, h5⟩ := h
  obtain ⟨rfl, hb⟩ := h4 (by omega)
  obtain ⟨cs, ⟨cv, rfl, hcv⟩, hat⟩ := h5 k s hs
  obtain ⟨c0, c1, c2, c3, c4, c5⟩ := hat.c6
  have hcell : ∀ (j : Nat) (s : Sp), p[j]? = some s → ∃ cv, At w b (off + j * 6) [.bool s.neg, .int .i64 s.kind, .int .i64 s.min, .int .i64 s.max, .bool s.strict, cv] := by
    intro j s hs
    obtain ⟨cs, ⟨cv, rfl, hr⟩, hat⟩ := h5 j s hs
    exact ⟨cv, hat⟩
  replace hcell := hide hcell
  have hrc := hide fun cv w1 (h : RdC w1 w1.heap.size cv s.cmps) => rasked_any s cv w1 h hcl
  obtain ⟨Ac, kc, hcve⟩ : ∃ A cap, cv = .slice A s.cmps.length cap := by
    obtain ⟨A, cap, b, off, e, -⟩ := hcv
    exact ⟨A, cap, e⟩
  subst hcve
  have hal := asked_len s.cmps s.cmps.length
  rw [List.take_of_length_le (Nat.le_refl _)] at hal
  have hv : rule7 p k s = (decide (s.cmps.length ≤ 4) && (asked s.cmps).all (askOk p k)) := rfl
  rw [hv]
  clear hv h5 h4 hs
  have hX := hide ((Below.refl w.heap.size w).alloc (Nat.le_refl _) (.cells #[.slice (some ⟨b, off, none⟩) p.length cap, .int .i64 win] 24))
  replace hcv := hide hcv
  replace hat := hide hat
  have hall : Hid (∀ n, n = asked s.cmps → n = asked s.cmps) := hide fun _ h => h
  generalize hL : asked s.cmps = L at *
  clear hL hall
  go_enter Try.func96, Try.ntmps96
  go_wp2_with (go_at_call 103; (with_reducible refine (hrc.out _ _ (RdC.below hcv.out hX.out (Below.size hX.out))).mono ?_); rintro e w1 ⟨⟨v1, rfl, hown⟩, hB1⟩; obtain ⟨A1, cap1, rfl⟩ := hown.form)
  have s0 : Below w.heap.size w w1 := hX.out.trans (hB1.mono (by simp))
  have s1 : w1.cell? ⟨w.heap.size, 0, none⟩ = some (.slice (some ⟨b, off, none⟩) p.length cap) := (hB1.cell (p := ⟨w.heap.size, 0, none⟩) (by simp)).trans (by simp)
  have s2 : w.heap.size < w1.heap.size := by have := hB1.size; simp at this; omega
  have hrd := hown.rd
  clear hB1 hown hrc hcv hX c0 c1 c2 c3 c4 c5
  obtain ⟨A2, cap2, b2, off2, e2, r2, r3, r4, r5⟩ := hrd
  obtain ⟨rfl, rfl⟩ : A1 = A2 ∧ cap1 = cap2 := by injection e2 with e1 _ e3; exact ⟨e1, e3⟩
  clear e2
  have hb1 : b < w1.heap.size := by omega
  go_loop [6] (fun i => ∃ m : Nat, m ≤ L.length ∧ i = .int .i64 m ∧ Hid ((L.take m).all (askOk p k) = true)) (fun i => L.length - (intOf i).toNat)
  case atStart => exact ⟨0, by omega, rfl, hide rfl⟩
  case round =>
    obtain ⟨m, hm, rfl, hyes⟩ := hrel
    by_cases hlm : m < L.length
    · obtain ⟨rfl, hb2⟩ := r4 (by omega)
      have hx := List.getElem?_eq_getElem hlm
      obtain ⟨vs, rfl, hat2⟩ := r5 m L[m] hx
      have d0 := hat2.c1
      simp only [Nat.mul_one] at d0
      have hn0 := hnn.out L[m] (List.getElem_mem hlm)
      have hsn := hide (askedOk_all hx hyes.out)
      have hno : Hid (askOk p k L[m] = false → (decide (s.cmps.length ≤ 4) && L.all (askOk p k)) = false) := hide fun h => by
        have : L.all (askOk p k) = false := all_take_false hx h
        simp [this]
      clear hat2 r5 hx hyes
      generalize L[m] = n at *
      rcases Int.lt_trichotomy n k with hc | hc | hc
      · obtain ⟨j, rfl⟩ : ∃ j : Nat, n = j := ⟨n.toNat, by omega⟩
        have hjl : j < p.length := by omega
        have hxj := List.getElem?_eq_getElem hjl
        obtain ⟨cvj, hatj⟩ := hcell.out j p[j] hxj
        obtain ⟨u0, -, -, u3, -, -⟩ := (hatj.below s0 hb).c6
        have hav : askOk p k j = (!p[j].neg && decide (p[j].max = 1)) := by
          have e1 : ¬ ((j : Int) = k) := by omega
          have e2 : (j : Int) < k := hc
          have e3 : stepAt p j = p[j] := by simp [stepAt, hxj]
          simp only [askOk, e1, e2, decide_false, decide_true, Bool.false_or, Bool.true_and, Int.toNat_natCast, e3]
        rw [hav] at hsn hno
        have hjp : (j : Int) < p.length := by omega
        clear hatj hxj hav
        generalize p[j] = t at *
        obtain ⟨tn, tk, tm, tx, tt, tc⟩ := t
        simp only at u0 u3 hsn hno
        cases tn with
        | true =>
          have hn2 := hide (hno.out rfl)
          clear hno hsn
          go_wp2
          go_ret
          exact ⟨ret_bool hn2.out.symm, s0⟩
        | false =>
          by_cases hx1 : tx = 1
          · subst hx1
            have hy2 : Hid ((L.take (m + 1)).all (askOk p k) = true) := hide (hsn.out.trans (by simp))
            clear hno hsn
            go_wp2
            go_round
            case rel => exact ⟨m + 1, by omega, rfl, hy2.out⟩
            case measure => simp [intOf]; omega
          · have d1 : (tx == 1) = false := by simpa using hx1
            have d2 : (tx != 1) = true := by simpa using hx1
            have hn2 := hide (hno.out (by simp [hx1]))
            clear hno hsn hx1
            go_wp2
            go_ret
            exact ⟨ret_bool hn2.out.symm, s0⟩
      · subst hc
        have hy2 : Hid ((L.take (m + 1)).all (askOk p k) = true) := hide (hsn.out.trans (by simp [askOk]))
        clear hno hsn
        go_wp2
        go_round
        case rel => exact ⟨m + 1, by omega, rfl, hy2.out⟩
        case measure => simp [intOf]; omega
      · have e1 : ¬ (n = (k : Int)) := by omega
        have e2 : ¬ (n < (k : Int)) := by omega
        have hn2 := hide (hno.out (by simp [askOk, e1, e2]))
        clear e1 e2
        clear hno hsn
        go_wp2
        go_ret
        exact ⟨ret_bool hn2.out.symm, s0⟩
    · obtain rfl : m = L.length := by omega
      have hA : Hid (L.all (askOk p k) = true) := hide (by have := hyes.out; rwa [List.take_of_length_le (Nat.le_refl _)] at this)
      obtain ⟨c0, c1, c2, c3, c4, c5⟩ := (hat.out.below s0 hb).c6
      clear hyes r4 r5 hcell hnn
      have hlt' : (k : Int) < p.length := by omega
      by_cases h4 : s.cmps.length ≤ 4
      · have h4' : (s.cmps.length : Int) ≤ 4 := by omega
        go_wp2
        go_ret
        exact ⟨ret_bool (by first | rfl | (rw [hA.out]; done) | (rw [hA.out]; simp [h4]; done)), s0⟩
      · have h4' : ¬ (s.cmps.length : Int) ≤ 4 := by omega
        go_wp2
        go_ret
        exact ⟨ret_bool (by first | rfl | (simp; omega)), s0⟩
end Go.Proofs.Ytidddeobachjgaa
