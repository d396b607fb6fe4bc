/- Several texts of one proof: The reference's layer of checks: which rule is not kept, tails and heads: the walks. | The reference's layer of checks: what it answers, tails and heads: the walks. | Rows with a step more, and a pattern's rows by definition: the walks of the reference's longer and Rows. -/
import Derived.Test.YtmmbblfmhcegcaaGreatM24
import Derived.Test.YtmmbblfmhcegcaaGreatM14
import Derived.Test.YtmmbblfmhcegcaaGreatM17
import Derived.Test.YtmmbblfmhcegcaaGreatM16

namespace Go.Proofs.YtmmbblfmhcegcaaGreat
open Go.RowKit

/-- Is rule r (3, 4, 5, 7) kept of step s, number k? -/
def keptB (p : List Sp) (r : Nat) (k : Nat) (s : Sp) : Bool := if r = 3 then rule3 p k s else if r = 4 then rule4 p k s else if r = 5 then rule5 p k s else rule7 p k s

set_option maxHeartbeats 1000000 in
theorem rkept_any (p : List Sp) (win : Int) (r k : Nat) (s : Sp) (sv : Value) (w : World) (h : RdS w w.heap.size sv p) (hs : p[k]? = some s) (hr : rightB p win = true) (hcl : s.cmps.length ≤ 1000) (hrr : r = 3 ∨ r = 4 ∨ r = 5 ∨ r = 7) :
    Calls Tryz.prog 53 #[ptV sv win, .int .i64 r, .int .i64 k] w fun e w' => e = .returned (.bool (keptB p r k s)) ∧ Below w.heap.size w w' := by
  have h3 := hide fun w1 (hb : Below w.heap.size w w1) => rthree_any p win k s sv w1 (h.below hb hb.size) hs
  have h4 := hide fun w1 (hb : Below w.heap.size w w1) => rfour_any p win k s sv w1 (h.below hb hb.size) hs
  have h5 := hide fun w1 (hb : Below w.heap.size w w1) => rfive_any p win k s sv w1 (h.below hb hb.size) hs
  have h7 := hide fun w1 (hb : Below w.heap.size w w1) => rseven_any p win k s sv w1 (h.below hb hb.size) hs hr hcl
  obtain ⟨A, cap, rfl⟩ := h.len
  have hX := hide ((Below.refl w.heap.size w).alloc (Nat.le_refl _) (.cells #[.slice A p.length cap, .int .i64 win] 24))
  clear h hr hs
  rcases hrr with rfl | rfl | rfl | rfl
  · rw [show keptB p 3 k s = rule3 p k s from rfl, show ((3 : Nat) : Int) = 3 from rfl]
    clear h4 h5 h7
    go_enter Tryz.func53, Tryz.ntmps53
    go_wp2_with (go_at_call 73; (with_reducible refine (h3.out _ hX.out).mono ?_); rintro e w1 ⟨rfl, hB1⟩)
    go_ret
    exact ⟨rfl, hX.out.trans (hB1.mono (by simp))⟩
  · rw [show keptB p 4 k s = rule4 p k s from rfl, show ((4 : Nat) : Int) = 4 from rfl]
    clear h3 h5 h7
    go_enter Tryz.func53, Tryz.ntmps53
    go_wp2_with (go_at_call 74; (with_reducible refine (h4.out _ hX.out).mono ?_); rintro e w1 ⟨rfl, hB1⟩)
    go_ret
    exact ⟨rfl, hX.out.trans (hB1.mono (by simp))⟩
  · rw [show keptB p 5 k s = rule5 p k s from rfl, show ((5 : Nat) : Int) = 5 from rfl]
    clear h3 h4 h7
    go_enter Tryz.func53, Tryz.ntmps53
    go_wp2_with (go_at_call 75; (with_reducible refine (h5.out _ hX.out).mono ?_); rintro e w1 ⟨rfl, hB1⟩)
    go_ret
    exact ⟨rfl, hX.out.trans (hB1.mono (by simp))⟩
  · rw [show keptB p 7 k s = rule7 p k s from rfl, show ((7 : Nat) : Int) = 7 from rfl]
    clear h3 h4 h5
    go_enter Tryz.func53, Tryz.ntmps53
    go_wp2_with (go_at_call 76; (with_reducible refine (h7.out _ hX.out).mono ?_); rintro e w1 ⟨rfl, hB1⟩)
    go_ret
    exact ⟨rfl, hX.out.trans (hB1.mono (by simp))⟩

theorem broken_first {p : List Sp} {win : Int} {r : Nat} (hr : r = 3 ∨ r = 4 ∨ r = 5 ∨ r = 7) : broken p win r = firstFrom (keptB p r) 0 p := by
  rcases hr with rfl | rfl | rfl | rfl
  · rfl
  · rfl
  · rfl
  · rfl

set_option maxRecDepth 100000 in
set_option maxHeartbeats 2000000 in
theorem rbroken_any (p : List Sp) (win : Int) (r : Nat) (sv : Value) (w : World) (h : RdS w w.heap.size sv p) (hr : rightB p win = true) (hcl : ∀ s ∈ p, s.cmps.length ≤ 1000) (h1 : 1 ≤ r) (h7 : r ≤ 7) :
    Calls Tryz.prog 41 #[ptV sv win, .int .i64 r] w fun e w' => e = .returned (.int .i64 (broken p win r)) ∧ Below w.heap.size w w' := by
  have hp0 := (right_parts hr).1
  have hll := RdL.lenle h
  have c1 := hide fun w1 (hb : Below w.heap.size w w1) => rone_any p win sv w1 (h.below hb hb.size)
  have c2 := hide fun w1 (hb : Below w.heap.size w w1) => rtwo_any p win sv w1 (h.below hb hb.size) hp0
  have c6 := hide fun w1 (hb : Below w.heap.size w w1) => rsix_any p win sv w1 (h.below hb hb.size) hr
  have ck := hide fun (hrr : r = 3 ∨ r = 4 ∨ r = 5 ∨ r = 7) k s (hs : p[k]? = some s) w1 (hb : Below w.heap.size w w1) => rkept_any p win r k s sv w1 (h.below hb hb.size) hs hr (hcl s (List.mem_of_getElem? hs)) hrr
  obtain ⟨A, cap, rfl⟩ := h.len
  have hX := hide ((Below.refl w.heap.size w).alloc (Nat.le_refl _) (.cells #[.slice A p.length cap, .int .i64 win] 24))
  clear h hr hcl
  by_cases e1 : r = 1
  · subst e1
    rw [show broken p win 1 = whole (rule1 p win) from rfl, show ((1 : Nat) : Int) = 1 from rfl]
    clear c2 c6 ck
    go_enter Tryz.func41, Tryz.ntmps41
    go_wp2_with (go_at_call 50; (with_reducible refine (c1.out _ hX.out).mono ?_); rintro e w1 ⟨rfl, hB1⟩)
    go_ret
    exact ⟨rfl, hX.out.trans (hB1.mono (by simp))⟩
  by_cases e2 : r = 2
  · subst e2
    rw [show broken p win 2 = whole (rule2 p) from rfl, show ((2 : Nat) : Int) = 2 from rfl]
    clear c1 c6 ck
    go_enter Tryz.func41, Tryz.ntmps41
    go_wp2_with (go_at_call 51; (with_reducible refine (c2.out _ hX.out).mono ?_); rintro e w1 ⟨rfl, hB1⟩)
    go_ret
    exact ⟨rfl, hX.out.trans (hB1.mono (by simp))⟩
  by_cases e6 : r = 6
  · subst e6
    rw [show broken p win 6 = whole (rule6 p) from rfl, show ((6 : Nat) : Int) = 6 from rfl]
    clear c1 c2 ck
    go_enter Tryz.func41, Tryz.ntmps41
    go_wp2_with (go_at_call 52; (with_reducible refine (c6.out _ hX.out).mono ?_); rintro e w1 ⟨rfl, hB1⟩)
    go_ret
    exact ⟨rfl, hX.out.trans (hB1.mono (by simp))⟩
  have hrr : r = 3 ∨ r = 4 ∨ r = 5 ∨ r = 7 := by omega
  have hv : Hid (broken p win r = firstFrom (keptB p r) 0 p) := hide (broken_first hrr)
  replace ck := hide (ck.out hrr)
  have d1 : ((r : Int) == 1) = false := by simp; omega
  have d2 : ((r : Int) == 2) = false := by simp; omega
  have d6 : ((r : Int) == 6) = false := by simp; omega
  clear c1 c2 c6 hrr e1 e2 e6
  go_enter Tryz.func41, Tryz.ntmps41
  go_wp2
  clear d1 d2 d6
  go_loopw [5] (fun i wr => ∃ k : Nat, k ≤ p.length ∧ i = .int .i64 k ∧ Hid (∀ j t, j < k → p[j]? = some t → keptB p r j t = true) ∧ Below w.heap.size w wr ∧ wr.cell? ⟨w.heap.size, 0, none⟩ = some (.slice A p.length cap) ∧ wr.cell? ⟨w.heap.size, 1, none⟩ = some (.int .i64 win) ∧ w.heap.size < wr.heap.size) (fun i _ => p.length - (intOf i).toNat)
  case atStart => exact ⟨0, by omega, rfl, hide (fun j t hj => by omega), hX.out, by simp, by simp, by simp⟩
  case round =>
    obtain ⟨k, hk, rfl, hyes, hB, hb0, hb1, hz⟩ := hrel
    by_cases hlt : k < p.length
    · have hx := List.getElem?_eq_getElem hlt
      have hcall := hide (ck.out k p[k] hx)
      have hnx : Hid (keptB p r k p[k] = true → ∀ j t, j < k + 1 → p[j]? = some t → keptB p r j t = true) := hide fun h j t hj ht => by
        by_cases e : j = k
        · subst e
          rw [hx] at ht
          cases ht
          exact h
        · exact hyes.out j t (by omega) ht
      have hno : Hid (keptB p r k p[k] = false → firstFrom (keptB p r) 0 p = k) := hide fun h => by
        have := first_at (f := keptB p r) (i := 0) hx (by simpa using h) (fun j t hj ht => by simpa using hyes.out j t hj ht)
        simpa using this
      clear hx hyes
      generalize keptB p r k p[k] = q at *
      have hz2 := hB.size
      cases q with
      | true =>
        replace hnx := hide (hnx.out rfl)
        clear hno
        go_wp2_with (go_at_call 53; (with_reducible refine (stayf (G := w.heap.size + 1) (hcall.out _ hB) (by omega)).mono ?_); rintro e w1 ⟨rfl, hc1, hf1, hz1, hB1⟩)
        refine ⟨⟨k + 1, by omega, rfl, hnx, hB.trans (hB1.out.mono (by omega)), ?_, ?_, by omega⟩, by simp [intOf]; omega⟩
        · exact (hc1 _ _ (by omega)).trans hb0
        · exact (hc1 _ _ (by omega)).trans hb1
      | false =>
        replace hno := hide (hno.out rfl)
        clear hnx
        go_wp2_with (go_at_call 53; (with_reducible refine (stayf (G := w.heap.size + 1) (hcall.out _ hB) (by omega)).mono ?_); rintro e w1 ⟨rfl, hc1, hf1, hz1, hB1⟩)
        go_ret
        exact ⟨by rw [hv.out, hno.out]; rfl, hB.trans (hB1.out.mono (by omega))⟩
    · obtain rfl : k = p.length := by omega
      have hi : Hid (firstFrom (keptB p r) 0 p = -1) := hide (first_ok fun j t ht => by
        simpa using hyes.out j t (List.getElem?_eq_some_iff.1 ht).1 ht)
      clear hyes ck
      go_wp2
      go_ret
      exact ⟨by rw [hv.out, hi.out]; rfl, hB⟩
end Go.Proofs.YtmmbblfmhcegcaaGreat

namespace Go.Proofs.YtmmbblfmhcegcaaGreat
open Go.RowKit

theorem check_at {p : List Sp} {win : Int} (hr : rightB p win = true) {r : Nat} (h1 : 1 ≤ r) (h7 : r ≤ 7) (hb : ∀ j, 1 ≤ j → j < r → broken p win j < 0) (h : 0 ≤ broken p win r) : checkF p win = ((r : Int), broken p win r, 110) := by
  simp only [checkF, hr, if_true]
  rcases checkFrom_spec p win 7 1 with ⟨-, h2⟩ | ⟨k, g1, g2, g3, g4, g5⟩
  · have := h2 r h1 (by omega); omega
  · have : k = r := by
      rcases Nat.lt_trichotomy k r with hc | hc | hc
      · have := hb k g1 hc; omega
      · exact hc
      · have := g5 r h1 hc; omega
    subst this
    exact g3
theorem check_ok {p : List Sp} {win : Int} (hr : rightB p win = true) (hb : ∀ j, 1 ≤ j → j < 8 → broken p win j < 0) : checkF p win = (0, 0, 0) := by
  simp only [checkF, hr, if_true]
  rcases checkFrom_spec p win 7 1 with ⟨h1, -⟩ | ⟨k, g1, g2, g3, g4, g5⟩
  · exact h1
  · have := hb k g1 (by omega); omega
theorem tup3 {a b c : Int} {t : Int × Int × Int} (h : t = (a, b, c)) : (Ending.returned (.tuple #[.int .i64 a, .int .i64 b, .int .i64 c])) = .returned (.tuple #[.int .i64 t.1, .int .i64 t.2.1, .int .i64 t.2.2]) := by rw [h]

set_option maxRecDepth 100000 in
set_option maxHeartbeats 2000000 in
theorem rcheck_any (p : List Sp) (win : Int) (sv : Value) (w : World) (h : RdS w w.heap.size sv p) (hcl : ∀ s ∈ p, s.cmps.length ≤ 1000) :
    Calls Tryz.prog 28 #[ptV sv win] w fun e w' => e = .returned (.tuple #[.int .i64 (checkF p win).1, .int .i64 (checkF p win).2.1, .int .i64 (checkF p win).2.2]) ∧ Below w.heap.size w w' := by
  have hrr := hide fun w1 (hb : Below w.heap.size w w1) => rright_any p win sv w1 (h.below hb hb.size)
  have hbr := hide fun (hr : rightB p win = true) r (h1 : 1 ≤ r) (h7 : r ≤ 7) w1 (hb : Below w.heap.size w w1) => rbroken_any p win r sv w1 (h.below hb hb.size) hr hcl h1 h7
  obtain ⟨A, cap, rfl⟩ := h.len
  have hX := hide ((Below.refl w.heap.size w).alloc (Nat.le_refl _) (.cells #[.slice A p.length cap, .int .i64 win] 24))
  clear h hcl
  cases hr : rightB p win with
  | false =>
    rw [hr] at hrr
    have hv := hide (check_wrong hr)
    clear hbr hr
    go_enter Tryz.func28, Tryz.ntmps28
    go_wp2_with (go_at_call 40; (with_reducible refine (hrr.out _ hX.out).mono ?_); rintro e w1 ⟨rfl, hB1⟩)
    go_ret3
    exact ⟨tup3 hv.out, hX.out.trans (hB1.mono (by simp))⟩
  | true =>
    rw [hr] at hrr
    replace hbr := hide (hbr.out hr)
    have hat := hide fun r (h1 : 1 ≤ r) (h7 : r ≤ 7) hb h => check_at hr (r := r) h1 h7 hb h
    have hok := hide fun hb => check_ok hr hb
    clear hr
    go_enter Tryz.func28, Tryz.ntmps28
    go_wp2_with (go_at_call 40; (with_reducible refine (stayf (G := w.heap.size + 1) (hrr.out _ hX.out) (by simp)).mono ?_); rintro e w1 ⟨rfl, hc1, hf1, hz1, hB1⟩)
    have e0 : w1.cell? ⟨w.heap.size, 0, none⟩ = some (.slice A p.length cap) := by rw [hc1 _ _ (by omega)]; simp
    have e1 : w1.cell? ⟨w.heap.size, 1, none⟩ = some (.int .i64 win) := by rw [hc1 _ _ (by omega)]; simp
    have s0 : Below w.heap.size w w1 := hX.out.trans (hB1.out.mono (by omega))
    clear hc1 hf1 hB1 hX hrr
    go_loopw [5] (fun i wr => ∃ r : Nat, 1 ≤ r ∧ r ≤ 8 ∧ i = .int .i64 r ∧ Hid (∀ j, 1 ≤ j → j < r → broken p win j < 0) ∧ Below w.heap.size w wr ∧ wr.cell? ⟨w.heap.size, 0, none⟩ = some (.slice A p.length cap) ∧ wr.cell? ⟨w.heap.size, 1, none⟩ = some (.int .i64 win) ∧ w.heap.size < wr.heap.size) (fun i _ => 8 - (intOf i).toNat)
    case atStart => exact ⟨1, by omega, by omega, rfl, hide (fun j h1 h2 => by omega), s0, e0, e1, hz1⟩
    case round =>
      clear s0 e0 e1 hz1
      obtain ⟨r, hr1, hr8, rfl, hyes, hB, hb0, hb1, hz⟩ := hrel
      have hz2 := hB.size
      by_cases hlt : r ≤ 7
      · have hcall := hide (hbr.out r hr1 hlt)
        have hat2 := hide (hat.out r hr1 hlt hyes.out)
        have hnx : Hid (broken p win r < 0 → ∀ j, 1 ≤ j → j < r + 1 → broken p win j < 0) := hide fun h j h1 h2 => by
          by_cases e : j = r
          · subst e; exact h
          · exact hyes.out j h1 (by omega)
        have hlt' : (r : Int) ≤ 7 := by omega
        clear hyes hat hok hbr
        generalize broken p win r = x at *
        by_cases hx : x < 0
        · replace hnx := hide (hnx.out hx)
          clear hat2
          go_wp2_with (go_at_call 41; (with_reducible refine (stayf (G := w.heap.size + 1) (hcall.out _ hB) (by omega)).mono ?_); rintro e w1 ⟨rfl, hc1, hf1, hz1, hB1⟩)
          refine ⟨⟨r + 1, by omega, by omega, rfl, hnx, hB.trans (hB1.out.mono (by omega)), ?_, ?_, by omega⟩, by simp [intOf]; omega⟩
          · exact (hc1 _ _ (by omega)).trans hb0
          · exact (hc1 _ _ (by omega)).trans hb1
        · replace hat2 := hide (hat2.out (by omega))
          clear hnx
          go_wp2_with (go_at_call 41; (with_reducible refine (stayf (G := w.heap.size + 1) (hcall.out _ hB) (by omega)).mono ?_); rintro e w1 ⟨rfl, hc1, hf1, hz1, hB1⟩)
          go_ret3
          exact ⟨tup3 hat2.out, hB.trans (hB1.out.mono (by omega))⟩
      · obtain rfl : r = 8 := by omega
        have hv := hide (hok.out hyes.out)
        clear hyes hat hok hbr
        go_wp2
        go_ret3
        exact ⟨tup3 hv.out, hB⟩

set_option maxRecDepth 100000 in
theorem rcright_any (p : List Sp) (win : Int) (v : Value) (w : World) (h : RdS w w.heap.size v p) (hcl : ∀ s ∈ p, s.cmps.length ≤ 1000) :
    Calls Tryz.prog 8 #[ptV v win] w fun e w' => e = .returned (.bool (mayB p win)) ∧ Below w.heap.size w w' := by
  have hc := hide fun w1 (hb : Below w.heap.size w w1) => rcheck_any p win v w1 (h.below hb hb.size) hcl
  obtain ⟨A, cap, rfl⟩ := h.len
  have hv : Hid (mayB p win = ((checkF p win).2.2 == 0)) := hide (by simp [mayB]; rfl)
  clear h
  generalize checkF p win = t at *
  obtain ⟨a, b, c⟩ := t
  simp only at hc hv
  go_enter Tryz.func8, Tryz.ntmps8
  go_wp2_with (go_at_call 28; (with_reducible refine (hc.out _ ((Below.refl _ _).alloc (Nat.le_refl _) _)).mono ?_); rintro e w1 ⟨rfl, hB1⟩)
  go_ret
  exact ⟨by rw [hv.out]; rfl, ((Below.refl _ _).alloc (Nat.le_refl _) _).trans (hB1.mono (by simp))⟩

end Go.Proofs.YtmmbblfmhcegcaaGreat

namespace Go.Proofs.YtmmbblfmhcegcaaGreat
open Go.RowKit Go.Shelf
attribute [local go_sem] grown_cell grown_frozen

/-- One row with a step more, at most so many times. -/
def perRow (r : List Int) (i : Nat) (s : Sp) (m : Nat) : List (List Int) := ((List.range m).filter fun (n : Nat) => decide (s.min ≤ (n : Int) + 1)).map fun (n : Nat) => r ++ List.replicate (n + 1) (i : Int)
theorem perRow_succ (r : List Int) (i : Nat) (s : Sp) (m : Nat) : perRow r i s (m + 1) = perRow r i s m ++ (if s.min ≤ (m : Int) + 1 then [r ++ List.replicate (m + 1) (i : Int)] else []) := by
  simp only [perRow, List.range_succ, List.filter_append, List.map_append, List.filter_cons, List.filter_nil]
  by_cases h : s.min ≤ (m : Int) + 1 <;> simp [h]
theorem perRow_len (r : List Int) (i : Nat) (s : Sp) (m : Nat) : (perRow r i s m).length ≤ m := by
  have := List.length_filter_le (fun (n : Nat) => decide (s.min ≤ (n : Int) + 1)) (List.range m)
  simp only [perRow, List.length_map, List.length_range] at this ⊢
  exact this
theorem longer_snoc {rows : List (List Int)} {k : Nat} {r : List Int} (h : rows[k]? = some r) (i : Nat) (s : Sp) : longerL (rows.take (k + 1)) i s = longerL (rows.take k) i s ++ perRow r i s s.max.toNat := by
  simp [longerL, perRow, List.take_add_one, h, List.flatMap_append]
theorem longer_len (rows : List (List Int)) (i : Nat) (s : Sp) : (longerL rows i s).length ≤ rows.length * s.max.toNat := by
  induction rows with
  | nil => simp [longerL]
  | cons r rows ih =>
    have := perRow_len r i s s.max.toNat
    simp only [longerL, List.flatMap_cons, List.length_append, List.length_cons, Nat.succ_mul] at ih ⊢
    simp only [perRow] at this
    omega
theorem longer_mem {rows : List (List Int)} {i : Nat} {s : Sp} {x : List Int} (h : x ∈ longerL rows i s) : ∃ r ∈ rows, x.length ≤ r.length + s.max.toNat := by
  simp only [longerL, List.mem_flatMap, List.mem_map, List.mem_filter, List.mem_range] at h
  obtain ⟨r, hr, n, ⟨hn, -⟩, rfl⟩ := h
  exact ⟨r, hr, by simp; omega⟩

theorem OwLL.kept_ {w w' : World} {G : Nat} {v : Value} {q : List (List Int)} {vs : List Value} {row : Option Nat} (h : OwLL w G v q vs) (hg : w.grownBy w' row) (h0 : v.ownBlock = none ∨ v.ownBlock ≠ row) (h1 : ∀ u ∈ vs, u.ownBlock = none ∨ u.ownBlock ≠ row) : OwLL w' G v q vs :=
  ⟨World.ownsRow.kept h.row hg h0, fun j r l e1 e2 => OwI.kept (h.els j r l e1 e2) hg (h1 r (List.mem_of_getElem? e1))⟩
theorem OwLL.mono {w : World} {G G' : Nat} {v : Value} {q : List (List Int)} {vs : List Value} (h : OwLL w G v q vs) (hb : G' ≤ G) : OwLL w G' v q vs := ⟨own_mono h.row hb, fun j r l e1 e2 => (h.els j r l e1 e2).mono hb⟩
theorem OwLL.lt {w : World} {G : Nat} {v : Value} {q : List (List Int)} {vs : List Value} (h : OwLL w G v q vs) {u : Value} (hu : u ∈ vs) (k : Nat) (e : u.ownBlock = some k) : G ≤ k ∧ k < w.heap.size := by
  obtain ⟨j, hj, rfl⟩ := List.mem_iff_getElem.1 hu
  have hq : j < q.length := by rw [← h.len]; exact hj
  exact OwI.lt (h.els j _ _ (List.getElem?_eq_getElem hj) (List.getElem?_eq_getElem hq)) k e

theorem rdi_alloc {w : World} {v : Value} {l : List Int} (h : RdI w w.heap.size v l) (o : Obj) : RdI (w.alloc o) (w.alloc o).heap.size v l := h.below ((Below.refl _ _).alloc (Nat.le_refl _) o) (by simp)
theorem owi_empty (w : World) : OwI (w.alloc (.cells #[] 3)) w.heap.size (.slice (some ⟨w.heap.size, 0, none⟩) 0 0) [] := World.ownsRow_made w #[] 0 (Nat.le_refl _) (Nat.zero_le _) rfl

section
variable {ops : Array Oper} {rest : List Oper} {o : Oper} {a : Act} {Q : Exit → Act → World → Prop} {w : World} {base g : Nat} {v : Value} {l : List Int} {x : Int}
/-- 'append(s, x)' of one number; where the row lies behind it. -/
theorem app1_at (s y : Operand) (hgd : o.guard = none) (ho : o.op = .call { callee := .builtin .append, args := #[s, y], argTypes := #[28, 28] })
    (hs : a.eval s = v) (hy : a.eval y = .slice (some ⟨g, 0, none⟩) 1 1) (hown : OwI w base v l) (hc : w.cell? ⟨g, 0, none⟩ = some (.int .i64 x)) (hl : l.length < 1000000) (hb : base ≤ w.heap.size)
    (h : ∀ v' w', OwI w' base v' (l ++ [x]) → w.grownBy w' v.ownBlock → (v'.ownBlock = v.ownBlock ∨ v'.ownBlock = some w.heap.size) → wpList Tryz.prog ops Q rest (a.put o.dst v') w') : wpList Tryz.prog ops Q (o :: rest) a w := by
  obtain ⟨i0, hi, hz0, hz1, hz2⟩ := info_parts int_info
  refine wpList_append_own_at w hgd s y 28 ho base 3 i0 (.int .i64 0) 1 8 Tryz.underlying28 hi hz0 hz1 hz2 rfl (by decide) v l.length _ hs hown ⟨g, 0, none⟩ 1 1 [.int .i64 x] hy rfl
    (cell_one_new' hc) (by simp [Value.oneCell']) (by unfold maxLen; omega) (by omega) hb ?_
  intro v' w' h1 h2 _ h4
  exact h v' w' (by simpa [OwI] using h1) h2 h4
end

theorem ap_old {os : List Value} {v v' u : Value} {w : World} {o : Obj} (hap : ∀ u ∈ os, u.ownBlock = none ∨ u.ownBlock ≠ v.ownBlock) (hat : v'.ownBlock = v.ownBlock ∨ v'.ownBlock = some (w.alloc o).heap.size) (hlt : ∀ q, u.ownBlock = some q → q < w.heap.size) (hm : u ∈ os) : u.ownBlock = none ∨ u.ownBlock ≠ v'.ownBlock := by
  rcases hat with e | e
  · rw [e]
    exact hap u hm
  · rw [e]
    cases hub : u.ownBlock with
    | none => exact .inl rfl
    | some q =>
      right
      intro e2
      have h1 := hlt q hub
      simp at e2
      omega

set_option maxRecDepth 100000 in
set_option maxHeartbeats 8000000 in
theorem longer_any (rows : List (List Int)) (i : Nat) (s : Sp) (cv v : Value) (w : World) (h : RdLL w w.heap.size v rows) (hcv : ∃ A n c, cv = .slice A n c) (hn : rows.length ≤ 1000) (hrl : ∀ r ∈ rows, r.length ≤ 1000) (hm0 : 0 ≤ s.max) (hm1 : s.max ≤ 10) :
    Calls Tryz.prog 31 #[v, .int .i64 i, spV s cv] w fun e w' => (∃ u us, e = .returned u ∧ OwLL w' w.heap.size u (longerL rows i s) us) ∧ Below w.heap.size w w' := by
  obtain ⟨Ac, nc, cc, rfl⟩ := hcv
  obtain ⟨A, cap, b, off, rfl, h2, h3, h4, h5⟩ := h
  obtain ⟨M, hM⟩ : ∃ M : Nat, s.max = M := ⟨s.max.toNat, by omega⟩
  have hsnoc := hide fun (k : Nat) (r : List Int) (hr : rows[k]? = some r) => longer_snoc hr i s
  have hper := hide fun (r : List Int) (m : Nat) => perRow_succ r i s m
  have hpl := hide fun (r : List Int) (m : Nat) => perRow_len r i s m
  have hll := hide fun (k : Nat) (hk : k ≤ rows.length) => show (longerL (rows.take k) i s).length ≤ 10000 from by
    have h1 := longer_len (rows.take k) i s
    have h2 : (rows.take k).length * s.max.toNat ≤ 1000 * 10 := Nat.mul_le_mul (by simp; omega) (by omega)
    omega
  have hnil : Hid (longerL (rows.take 0) i s = []) := hide (by simp [longerL])
  have hp0 : Hid (∀ r, perRow r i s 0 = []) := hide (fun r => rfl)
  rw [show s.max.toNat = M by omega] at hsnoc
  have hfull : Hid (longerL (rows.take rows.length) i s = longerL rows i s) := hide (by rw [List.take_length])
  generalize hLL : (fun k => longerL (rows.take k) i s) = LL at *
  have hLL' : ∀ k, longerL (rows.take k) i s = LL k := fun k => by rw [← hLL]
  simp only [hLL'] at hsnoc hll hnil hfull
  generalize hPR : (fun r m => perRow r i s m) = PR at *
  have hPR' : ∀ r m, perRow r i s m = PR r m := fun r m => by rw [← hPR]
  simp only [hPR'] at hsnoc hper hpl hp0
  clear hLL hLL' hPR hPR'
  replace hrl := hide hrl
  obtain ⟨neg, kind, mn, mx, strict, cmps⟩ := s
  simp only at hM hm0 hm1 hper
  subst hM
  have hz0 : (w.alloc (.cells #[.bool neg, .int .i64 kind, .int .i64 mn, .int .i64 (M : Int), .bool strict, .slice Ac nc cc] 45)).heap.size = w.heap.size + 1 := by simp
  have hB0 := hide ((Below.refl w.heap.size w).alloc (Nat.le_refl _) (.cells #[.bool neg, .int .i64 kind, .int .i64 mn, .int .i64 (M : Int), .bool strict, .slice Ac nc cc] 45))
  have b0 := hide (Blk.new w 45 #[.bool neg, .int .i64 kind, .int .i64 mn, .int .i64 (M : Int), .bool strict, .slice Ac nc cc])
  go_enter Tryz.func31, Tryz.ntmps31
  go_wp2
  generalize w.alloc (.cells #[.bool neg, .int .i64 kind, .int .i64 mn, .int .i64 (M : Int), .bool strict, .slice Ac nc cc] 45) = W0 at *
  go_loopw [7, 8] (fun o kv wr => ∃ (k : Nat) (os : List Value), k ≤ rows.length ∧ kv = .int .i64 k ∧ OwLL wr W0.heap.size o (LL k) os ∧ Below W0.heap.size W0 wr) (fun _ kv _ => rows.length - (intOf kv).toNat)
  case atStart => exact ⟨0, [], by omega, rfl, by rw [hnil.out]; exact OwLL.nil _ _, Below.refl _ _⟩
  case round =>
    obtain ⟨k, os, hk, rfl, hown, hB⟩ := hrel
    have hzr := hB.size
    by_cases hlt : k < rows.length
    · obtain ⟨rfl, hb⟩ := h4 (by omega)
      obtain ⟨r, hr⟩ : ∃ r, rows[k]? = some r := ⟨_, List.getElem?_eq_getElem hlt⟩
      obtain ⟨us, ⟨rv, rfl, hrv⟩, hat⟩ := h5 k r hr
      obtain ⟨Ar, cr, rfl⟩ := rd_form hrv
      have hbw : Below w.heap.size w wr := hB0.out.trans (hB.mono (by omega))
      have c0 := (hat.below hbw hb) 0 _ rfl
      simp only [Nat.mul_one, Nat.add_zero] at c0
      have hrv2 := hide (hrv.below hbw hbw.size)
      have hsn := hide (hsnoc.out k r hr)
      have hrl9 := hrl.out r (List.mem_of_getElem? hr)
      have hll9 := hll.out k (by omega)
      have hbr : b < wr.heap.size := Nat.lt_of_lt_of_le hb hbw.size
      have hki : (k : Int) < rows.length := by omega
      have bx := b0.out.below hB (by omega)
      replace hbw := hide hbw
      clear hat hrv h5 hr
      go_wp2_with (at_builtin; (refine app_ints (v := .slice (some ⟨wr.heap.size, 0, none⟩) 0 0) (l := []) (xs := r) (.tmp 17) (.tmp 21) rfl rfl rfl rfl (owi_empty wr) (rdi_alloc hrv2.out _) (by simp; omega) (by simp) ?_); intro v1 w1 hown1 hg1)
      have hB1 : Below wr.heap.size wr w1 := ((Below.refl _ _).alloc (Nat.le_refl _) _).grown hg1 (by simp) (fun j e => by simp [Value.ownBlock] at e; omega)
      have hap1 : ∀ u ∈ os, u.ownBlock = none ∨ u.ownBlock ≠ v1.ownBlock := fun u hu => by
        cases hub : u.ownBlock with
        | none => exact .inl rfl
        | some j =>
          right
          intro e
          have h1 := (hown.lt hu j hub).2
          have h2 := (OwI.lt hown1 j e.symm).1
          omega
      have hown2 := hown.below hB1
      have hBw1 := hB.trans (hB1.mono hzr)
      simp only [List.nil_append] at hown1
      have hzr1 := hB1.size
      clear hown c0 bx hg1
      replace hB := hide hB
      replace hB1 := hide hB1
      replace hrv2 := hide hrv2
      obtain ⟨z0, hz0r⟩ : ∃ z, wr.heap.size = z := ⟨_, rfl⟩
      rw [hz0r] at hown1 hzr hzr1
      replace hz0r := hide hz0r
      go_loopw [7, 9, 10] (fun o2 rv nv wi => ∃ (m : Nat) (os2 : List Value), m ≤ M ∧ nv = .int .i64 ((m : Int) + 1) ∧ OwI wi z0 rv (r ++ List.replicate m (i : Int)) ∧ OwLL wi W0.heap.size o2 (LL k ++ PR r m) os2 ∧ (∀ u ∈ os2, u.ownBlock = none ∨ u.ownBlock ≠ rv.ownBlock) ∧ Below W0.heap.size W0 wi ∧ z0 ≤ wi.heap.size) (fun _ _ nv _ => M + 1 - (intOf nv).toNat)
      case atStart => exact ⟨0, os, by omega, rfl, by simpa using hown1, by rw [hp0.out]; simpa using hown2, hap1, hBw1, hzr1⟩
      case round =>
        clear hown1 hown2 hap1 hBw1
        obtain ⟨m, os2, hmM, rfl, hrow, hout, hap, hBi, hzi⟩ := hrel
        have bx := b0.out.below hBi (by omega)
        have x2 := bx.cell 2
        have x3 := bx.cell 3
        simp at x2 x3
        have hpe := hide (hper.out r m)
        have hpl9 := hpl.out r m
        have hw1 : IntKind.i64.wrap ((m : Int) + 1 + 1) = (m : Int) + 1 + 1 := IntWalk.i64_in _ (by omega)
        by_cases hlm : m < M
        · have q1 : (m : Int) + 1 ≤ M := by omega
          have hrep : r ++ List.replicate m (i : Int) ++ [(i : Int)] = r ++ List.replicate (m + 1) (i : Int) := by rw [List.append_assoc, ← List.replicate_succ']
          have hlen : (r ++ List.replicate m (i : Int)).length ≤ 1010 := by simp; omega
          generalize PR r m = P0 at *
          by_cases q2 : mn ≤ (m : Int) + 1
          · have hpe2 := hide (show PR r (m + 1) = P0 ++ [r ++ List.replicate (m + 1) (i : Int)] by rw [hpe.out, if_pos q2])
            clear hpe hper
            have hml : (m : Int) < M := by omega
            obtain ⟨Ar0, kr0, rfl⟩ := hrow.form
            obtain ⟨R, hR⟩ : ∃ R, r ++ List.replicate (m + 1) (i : Int) = R := ⟨_, rfl⟩
            obtain ⟨R0, hR0⟩ : ∃ R0, r ++ List.replicate m (i : Int) = R0 := ⟨_, rfl⟩
            rw [hR, hR0] at hrep
            rw [hR] at hpe2
            rw [hR0] at hrow hap hlen
            rw [hR0]
            have hRl : R.length ≤ 1011 := by rw [← hrep]; simp; omega
            replace hrep := hide hrep
            replace hR := hide hR
            clear hR0
            replace hpe2 := hide hpe2
            go_wp2_with (first
              | (at_builtin; refine app1_at (v := .slice Ar0 R0.length kr0) (x := (i : Int)) (l := R0) (base := z0) (g := wr.heap.size) (.tmp 29) (.tmp 31) rfl rfl rfl rfl (hrow.alloc _) (Blk.new_ rfl _ _).one (by omega) (by simp; omega) ?_; intro v1 w1 hown1 hg1 hat1; rw [hrep.out] at hown1; obtain ⟨A1, k1, hv1⟩ := hown1.form; subst hv1; have hBi1 := (hBi.alloc (by omega) _).grown hg1 (by simp; omega) (fun j e => (by have := (OwI.lt hrow j e).1; omega)); have bx1 := b0.out.below hBi1 (by omega); have y2 := bx1.cell 2; simp at y2; replace hat1 := hide hat1; have hout1 := (hout.alloc (.cells #[.int .i64 (i : Int)] 3)).kept_ hg1 (own_ne (hout.alloc (.cells #[.int .i64 (i : Int)] 3)).row (OwI.alloc hrow (.cells #[.int .i64 (i : Int)] 3)) (by decide)) hap; have hw1s : W0.heap.size ≤ w1.heap.size := hBi1.size; have hBi1 := hide hBi1)
              | (at_builtin; refine app_ints (v := .slice (some ⟨w1.heap.size, 0, none⟩) 0 0) (l := []) (xs := R) (.tmp 38) (.tmp 39) rfl rfl rfl rfl (owi_empty w1) (rdi_alloc hown1.rd _) (by simp; omega) (by simp) ?_; intro v2 w2 hown2 hg2; simp only [List.nil_append] at hown2; obtain ⟨A2, k2, hv2⟩ := hown2.form; subst hv2; have hB12 : Below w1.heap.size w1 w2 := ((Below.refl _ _).alloc (Nat.le_refl _) _).grown hg2 (by simp) (fun j e => (by simp [Value.ownBlock] at e; omega)); have hB12 := hide hB12)
              | (at_builtin; refine app_ll (l := R) (base := W0.heap.size) (.tmp 37) (.tmp 41) rfl rfl rfl rfl ((hout1.below hB12.out).alloc _) ((hown2.mono hw1s).alloc _) (Blk.new_ rfl _ _) (by simp; omega) (by have := hB12.out.size; simp; omega) ?_; intro v3 w3 hown3 hg3))
            have hs3 : w1.heap.size ≤ w2.heap.size := hB12.out.size
            have hg1z := hg1.size
            have hg3z := hg3.size
            simp at hg1z hg3z
            refine ⟨⟨m + 1, os2 ++ [.slice A2 R.length k2], by omega, by simp, ?_, ?_, ?_, ?_, by omega⟩, by simp [intOf]; omega⟩
            · rw [hR.out]
              exact ((hown1.below hB12.out (Nat.le_refl _)).alloc _).kept hg3 (own_ne (OwI.alloc (hown1.below hB12.out (Nat.le_refl _)) (.cells #[.slice A2 R.length k2] 28)) ((hout1.below hB12.out).alloc (.cells #[.slice A2 R.length k2] 28)).row (by decide))
            · rw [hpe2.out.out, ← List.append_assoc]
              exact hown3
            · intro u hu
              rcases List.mem_append.1 hu with hm | hm
              · exact ap_old hap hat1.out (fun q e => (hout.lt hm q e).2) hm
              · rw [List.mem_singleton.1 hm]
                cases hub : (Value.slice A2 R.length k2).ownBlock with
                | none => exact .inl rfl
                | some q =>
                  right
                  intro e2
                  have a1 := (OwI.lt hown2 q hub).1
                  have a2 := (OwI.lt hown1 q e2.symm).2
                  omega
            · exact ((hBi1.out.trans (hB12.out.mono hw1s)).alloc (by omega) _).grown hg3 (by simp; omega) (fun j e => (World.ownsRow.lt hout.row j e).1)
          · have hpe2 := hide (show PR r (m + 1) = P0 by rw [hpe.out, if_neg q2, List.append_nil])
            clear hpe hper
            have hml : (m : Int) < M := by omega
            obtain ⟨Ar0, kr0, rfl⟩ := hrow.form
            obtain ⟨R, hR⟩ : ∃ R, r ++ List.replicate (m + 1) (i : Int) = R := ⟨_, rfl⟩
            obtain ⟨R0, hR0⟩ : ∃ R0, r ++ List.replicate m (i : Int) = R0 := ⟨_, rfl⟩
            rw [hR, hR0] at hrep
            rw [hR0] at hrow hap hlen
            rw [hR0]
            replace hrep := hide hrep
            replace hR := hide hR
            clear hR0
            replace hpe2 := hide hpe2
            have q2' : ¬ (mn ≤ (m : Int) + 1) := q2
            go_wp2_with (at_builtin; refine app1_at (v := .slice Ar0 R0.length kr0) (x := (i : Int)) (l := R0) (base := z0) (g := wr.heap.size) (.tmp 29) (.tmp 31) rfl rfl rfl rfl (hrow.alloc _) (Blk.new_ rfl _ _).one (by omega) (by simp; omega) ?_; intro v1 w1 hown1 hg1 hat1; rw [hrep.out] at hown1; obtain ⟨A1, k1, hv1⟩ := hown1.form; subst hv1; have hBi1 := (hBi.alloc (by omega) _).grown hg1 (by simp; omega) (fun j e => (by have := (OwI.lt hrow j e).1; omega)); have bx1 := b0.out.below hBi1 (by omega); have y2 := bx1.cell 2; simp at y2; replace hat1 := hide hat1; have hBi1 := hide hBi1)
            have hout1 := (hout.alloc (.cells #[.int .i64 (i : Int)] 3)).kept_ hg1 (own_ne (hout.alloc (.cells #[.int .i64 (i : Int)] 3)).row (OwI.alloc hrow (.cells #[.int .i64 (i : Int)] 3)) (by decide)) hap
            have hg1z := hg1.size
            simp at hg1z
            refine ⟨⟨m + 1, os2, by omega, by simp, ?_, ?_, ?_, hBi1.out, by omega⟩, by simp [intOf]; omega⟩
            · rw [hR.out]
              exact hown1
            · rw [hpe2.out.out]
              exact hout1
            · exact fun u hm => ap_old hap hat1.out (fun q e => (hout.lt hm q e).2) hm
        · obtain rfl : m = M := by omega
          have q1 : ¬ ((m : Int) + 1 ≤ m) := by omega
          clear hpe hper
          go_wp2
          exact ⟨⟨k + 1, os2, by omega, by simp, by rw [hsn.out]; exact hout, hBi⟩, by simp [intOf]; omega⟩
    · obtain rfl : k = rows.length := by omega
      clear h4 h5
      go_wp2
      go_ret
      exact ⟨⟨_, os, rfl, by rw [← hfull.out]; exact hown.mono (by omega)⟩, hB0.out.trans (hB.mono (by omega))⟩
end Go.Proofs.YtmmbblfmhcegcaaGreat
