/- The reference's layer of checks: which rule is not kept, tails and heads: the walks. -/
import Derived.Test.YtidddeobachjgaaRcB
import Derived.Test.YtidddeobachjgaaPlT
namespace Go.Proofs.Ytidddeobachjgaa
open Go.RowKit

/-- Is rule r (3, 4, 5, 7) kept of step s, number k? -/
def keptB (p : List Sp) (r : Nat) (k : Nat) (s : Sp) : Bool := if r = 3 then rule3 p k s else if r = 4 then rule4 p k s else if r = 5 then rule5 p k s else rule7 p k s

set_option maxHeartbeats 1000000 in
theorem rkept_any (p : List Sp) (win : Int) (r k : Nat) (s : Sp) (sv : Value) (w : World) (h : RdS w w.heap.size sv p) (hs : p[k]? = some s) (hr : rightB p win = true) (hcl : s.cmps.length ≤ 1000) (hrr : r = 3 ∨ r = 4 ∨ r = 5 ∨ r = 7) :
    Calls Try.prog 80 #[ptV sv win, .int .i64 r, .int .i64 k] w fun e w' => e = .returned (.bool (keptB p r k s)) ∧ Below w.heap.size w w' := by
  have h3 := hide fun w1 (hb : Below w.heap.size w w1) => rthree_any p win k s sv w1 (h.below hb hb.size) hs
  have h4 := hide fun w1 (hb : Below w.heap.size w w1) => rfour_any p win k s sv w1 (h.below hb hb.size) hs
  have h5 := hide fun w1 (hb : Below w.heap.size w w1) => rfive_any p win k s sv w1 (h.below hb hb.size) hs
  have h7 := hide fun w1 (hb : Below w.heap.size w w1) => rseven_any p win k s sv w1 (h.below hb hb.size) hs hr hcl
  obtain ⟨A, cap, rfl⟩ := h.len
  have hX := hide ((Below.refl w.heap.size w).alloc (Nat.le_refl _) (.cells #[.slice A p.length cap, .int .i64 win] 24))
  clear h hr hs
  rcases hrr with rfl | rfl | rfl | rfl
  · rw [show keptB p 3 k s = rule3 p k s from rfl, show ((3 : Nat) : Int) = 3 from rfl]
    clear h4 h5 h7
    go_enter Try.func80, Try.ntmps80
    go_wp2_with (go_at_call 93; (with_reducible refine (h3.out _ hX.out).mono ?_); rintro e w1 ⟨rfl, hB1⟩)
    go_ret
    exact ⟨rfl, hX.out.trans (hB1.mono (by simp))⟩
  · rw [show keptB p 4 k s = rule4 p k s from rfl, show ((4 : Nat) : Int) = 4 from rfl]
    clear h3 h5 h7
    go_enter Try.func80, Try.ntmps80
    go_wp2_with (go_at_call 94; (with_reducible refine (h4.out _ hX.out).mono ?_); rintro e w1 ⟨rfl, hB1⟩)
    go_ret
    exact ⟨rfl, hX.out.trans (hB1.mono (by simp))⟩
  · rw [show keptB p 5 k s = rule5 p k s from rfl, show ((5 : Nat) : Int) = 5 from rfl]
    clear h3 h4 h7
    go_enter Try.func80, Try.ntmps80
    go_wp2_with (go_at_call 95; (with_reducible refine (h5.out _ hX.out).mono ?_); rintro e w1 ⟨rfl, hB1⟩)
    go_ret
    exact ⟨rfl, hX.out.trans (hB1.mono (by simp))⟩
  · rw [show keptB p 7 k s = rule7 p k s from rfl, show ((7 : Nat) : Int) = 7 from rfl]
    clear h3 h4 h5
    go_enter Try.func80, Try.ntmps80
    go_wp2_with (go_at_call 96; (with_reducible refine (h7.out _ hX.out).mono ?_); rintro e w1 ⟨rfl, hB1⟩)
    go_ret
    exact ⟨rfl, hX.out.trans (hB1.mono (by simp))⟩

theorem broken_first {p : List Sp} {win : Int} {r : Nat} (hr : r = 3 ∨ r = 4 ∨ r = 5 ∨ r = 7) : broken p win r = firstFrom (keptB p r) 0 p := by
  rcases hr with rfl | rfl | rfl | rfl
  · rfl
  · rfl
  · rfl
  · rfl

set_option maxRecDepth 100000 in
set_option maxHeartbeats 2000000 in
theorem rbroken_any (p : List Sp) (win : Int) (r : Nat) (sv : Value) (w : World) (h : RdS w w.heap.size sv p) (hr : rightB p win = true) (hcl : ∀ s ∈ p, s.cmps.length ≤ 1000) (h1 : 1 ≤ r) (h7 : r ≤ 7) :
    Calls Try.prog 57 #[ptV sv win, .int .i64 r] w fun e w' => e = .returned (.int .i64 (broken p win r)) ∧ Below w.heap.size w w' := by
  have hp0 := (right_parts hr).1
  have hll := RdL.lenle h
  have c1 := hide fun w1 (hb : Below w.heap.size w w1) => rone_any p win sv w1 (h.below hb hb.size)
  have c2 := hide fun w1 (hb : Below w.heap.size w w1) => rtwo_any p win sv w1 (h.below hb hb.size) hp0
  have c6 := hide fun w1 (hb : Below w.heap.size w w1) => rsix_any p win sv w1 (h.below hb hb.size) hr
  have ck := hide fun (hrr : r = 3 ∨ r = 4 ∨ r = 5 ∨ r = 7) k s (hs : p[k]? = some s) w1 (hb : Below w.heap.size w w1) => rkept_any p win r k s sv w1 (h.below hb hb.size) hs hr (hcl s (List.mem_of_getElem? hs)) hrr
  obtain ⟨A, cap, rfl⟩ := h.len
  have hX := hide ((Below.refl w.heap.size w).alloc (Nat.le_refl _) (.cells #[.slice A p.length cap, .int .i64 win] 24))
  clear h hr hcl
  by_cases e1 : r = 1
  · subst e1
    rw [show broken p win 1 = whole (rule1 p win) from rfl, show ((1 : Nat) : Int) = 1 from rfl]
    clear c2 c6 ck
    go_enter Try.func57, Try.ntmps57
    go_wp2_with (go_at_call 77; (with_reducible refine (c1.out _ hX.out).mono ?_); rintro e w1 ⟨rfl, hB1⟩)
    go_ret
    exact ⟨rfl, hX.out.trans (hB1.mono (by simp))⟩
  by_cases e2 : r = 2
  · subst e2
    rw [show broken p win 2 = whole (rule2 p) from rfl, show ((2 : Nat) : Int) = 2 from rfl]
    clear c1 c6 ck
    go_enter Try.func57, Try.ntmps57
    go_wp2_with (go_at_call 78; (with_reducible refine (c2.out _ hX.out).mono ?_); rintro e w1 ⟨rfl, hB1⟩)
    go_ret
    exact ⟨rfl, hX.out.trans (hB1.mono (by simp))⟩
  by_cases e6 : r = 6
  · subst e6
    rw [show broken p win 6 = whole (rule6 p) from rfl, show ((6 : Nat) : Int) = 6 from rfl]
    clear c1 c2 ck
    go_enter Try.func57, Try.ntmps57
    go_wp2_with (go_at_call 79; (with_reducible refine (c6.out _ hX.out).mono ?_); rintro e w1 ⟨rfl, hB1⟩)
    go_ret
    exact ⟨rfl, hX.out.trans (hB1.mono (by simp))⟩
  have hrr : r = 3 ∨ r = 4 ∨ r = 5 ∨ r = 7 := by omega
  have hv : Hid (broken p win r = firstFrom (keptB p r) 0 p) := hide (broken_first hrr)
  replace ck := hide (ck.out hrr)
  have d1 : ((r : Int) == 1) = false := by simp; omega
  have d2 : ((r : Int) == 2) = false := by simp; omega
  have d6 : ((r : Int) == 6) = false := by simp; omega
  clear c1 c2 c6 hrr e1 e2 e6
  go_enter Try.func57, Try.ntmps57
  go_wp2
  clear d1 d2 d6
  go_loopw [5] (fun i wr => ∃ k : Nat, k ≤ p.length ∧ i = .int .i64 k ∧ Hid (∀ j t, j < k → p[j]? = some t → keptB p r j t = true) ∧ Below w.heap.size w wr ∧ wr.cell? ⟨w.heap.size, 0, none⟩ = some (.slice A p.length cap) ∧ wr.cell? ⟨w.heap.size, 1, none⟩ = some (.int .i64 win) ∧ w.heap.size < wr.heap.size) (fun i _ => p.length - (intOf i).toNat)
  case atStart => exact ⟨0, by omega, rfl, hide (fun j t hj => by omega), hX.out, by simp, by simp, by simp⟩
  case round =>
    obtain ⟨k, hk, rfl, hyes, hB, hb0, hb1, hz⟩ := hrel
    by_cases hlt : k < p.length
    · have hx := List.getElem?_eq_getElem hlt
      have hcall := hide (ck.out k p[k] hx)
      have hnx : Hid (keptB p r k p[k] = true → ∀ j t, j < k + 1 → p[j]? = some t → keptB p r j t = true) := hide fun h j t hj ht => by
        by_cases e : j = k
        · subst e
          rw [hx] at ht
          cases ht
          exact h
        · exact hyes.out j t (by omega) ht
      have hno : Hid (keptB p r k p[k] = false → firstFrom (keptB p r) 0 p = k) := hide fun h => by
        have := first_at (f := keptB p r) (i := 0) hx (by simpa using h) (fun j t hj ht => by simpa using hyes.out j t hj ht)
        simpa using this
      clear hx hyes
      generalize keptB p r k p[k] = q at *
      have hz2 := hB.size
      cases q with
      | true =>
        replace hnx := hide (hnx.out rfl)
        clear hno
        go_wp2_with (go_at_call 80; (with_reducible refine (stayf (G := w.heap.size + 1) (hcall.out _ hB) (by omega)).mono ?_); rintro e w1 ⟨rfl, hc1, hf1, hz1, hB1⟩)
        refine ⟨⟨k + 1, by omega, rfl, hnx, hB.trans (hB1.out.mono (by omega)), ?_, ?_, by omega⟩, by simp [intOf]; omega⟩
        · exact (hc1 _ _ (by omega)).trans hb0
        · exact (hc1 _ _ (by omega)).trans hb1
      | false =>
        replace hno := hide (hno.out rfl)
        clear hnx
        go_wp2_with (go_at_call 80; (with_reducible refine (stayf (G := w.heap.size + 1) (hcall.out _ hB) (by omega)).mono ?_); rintro e w1 ⟨rfl, hc1, hf1, hz1, hB1⟩)
        go_ret
        exact ⟨by rw [hv.out, hno.out]; rfl, hB.trans (hB1.out.mono (by omega))⟩
    · obtain rfl : k = p.length := by omega
      have hi : Hid (firstFrom (keptB p r) 0 p = -1) := hide (first_ok fun j t ht => by
        simpa using hyes.out j t (List.getElem?_eq_some_iff.1 ht).1 ht)
      clear hyes ck
      go_wp2
      go_ret
      exact ⟨by rw [hv.out, hi.out]; rfl, hB⟩
end Go.Proofs.Ytidddeobachjgaa
