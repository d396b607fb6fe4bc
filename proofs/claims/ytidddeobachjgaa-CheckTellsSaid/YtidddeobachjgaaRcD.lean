/- The reference's layer of checks: what it answers, tails and heads: the walks. -/
import Derived.Test.YtidddeobachjgaaRcC
namespace Go.Proofs.Ytidddeobachjgaa
open Go.RowKit

theorem check_at {p : List Sp} {win : Int} (hr : rightB p win = true) {r : Nat} (h1 : 1 ≤ r) (h7 : r ≤ 7) (hb : ∀ j, 1 ≤ j → j < r → broken p win j < 0) (h : 0 ≤ broken p win r) : checkF p win = ((r : Int), broken p win r, 110) := by
  simp only [checkF, hr, if_true]
  rcases checkFrom_spec p win 7 1 with ⟨-, h2⟩ | ⟨k, g1, g2, g3, g4, g5⟩
  · have := h2 r h1 (by omega); omega
  · have : k = r := by
      rcases Nat.lt_trichotomy k r with hc | hc | hc
      · have := hb k g1 hc; omega
      · exact hc
      · have := g5 r h1 hc; omega
    subst this
    exact g3
theorem check_ok {p : List Sp} {win : Int} (hr : rightB p win = true) (hb : ∀ j, 1 ≤ j → j < 8 → broken p win j < 0) : checkF p win = (0, 0, 0) := by
  simp only [checkF, hr, if_true]
  rcases checkFrom_spec p win 7 1 with ⟨h1, -⟩ | ⟨k, g1, g2, g3, g4, g5⟩
  · exact h1
  · have := hb k g1 (by omega); omega
theorem tup3 {a b c : Int} {t : Int × Int × Int} (h : t = (a, b, c)) : (Ending.returned (.tuple #[.int .i64 a, .int .i64 b, .int .i64 c])) = .returned (.tuple #[.int .i64 t.1, .int .i64 t.2.1, .int .i64 t.2.2]) := by rw [h]

set_option maxRecDepth 100000 in
set_option maxHeartbeats 2000000 in
theorem rcheck_any (p : List Sp) (win : Int) (sv : Value) (w : World) (h : RdS w w.heap.size sv p) (hcl : ∀ s ∈ p, s.cmps.length ≤ 1000) :
    Calls Try.prog 29 #[ptV sv win] w fun e w' => e = .returned (.tuple #[.int .i64 (checkF p win).1, .int .i64 (checkF p win).2.1, .int .i64 (checkF p win).2.2]) ∧ Below w.heap.size w w' := by
  have hrr := hide fun w1 (hb : Below w.heap.size w w1) => rright_any p win sv w1 (h.below hb hb.size)
  have hbr := hide fun (hr : rightB p win = true) r (h1 : 1 ≤ r) (h7 : r ≤ 7) w1 (hb : Below w.heap.size w w1) => rbroken_any p win r sv w1 (h.below hb hb.size) hr hcl h1 h7
  obtain ⟨A, cap, rfl⟩ := h.len
  have hX := hide ((Below.refl w.heap.size w).alloc (Nat.le_refl _) (.cells #[.slice A p.length cap, .int .i64 win] 24))
  clear h hcl
  cases hr : rightB p win with
  | false =>
    rw [hr] at hrr
    have hv := hide (check_wrong hr)
    clear hbr hr
    go_enter Try.func29, Try.ntmps29
    go_wp2_with (go_at_call 13; (with_reducible refine (hrr.out _ hX.out).mono ?_); rintro e w1 ⟨rfl, hB1⟩)
    go_ret3
    exact ⟨tup3 hv.out, hX.out.trans (hB1.mono (by simp))⟩
  | true =>
    rw [hr] at hrr
    replace hbr := hide (hbr.out hr)
    have hat := hide fun r (h1 : 1 ≤ r) (h7 : r ≤ 7) hb h => check_at hr (r := r) h1 h7 hb h
    have hok := hide fun hb => check_ok hr hb
    clear hr
    go_enter Try.func29, Try.ntmps29
    go_wp2_with (go_at_call 13; (with_reducible refine (stayf (G := w.heap.size + 1) (hrr.out _ hX.out) (by simp)).mono ?_); rintro e w1 ⟨rfl, hc1, hf1, hz1, hB1⟩)
    have e0 : w1.cell? ⟨w.heap.size, 0, none⟩ = some (.slice A p.length cap) := by rw [hc1 _ _ (by omega)]; simp
    have e1 : w1.cell? ⟨w.heap.size, 1, none⟩ = some (.int .i64 win) := by rw [hc1 _ _ (by omega)]; simp
    have s0 : Below w.heap.size w w1 := hX.out.trans (hB1.out.mono (by omega))
    clear hc1 hf1 hB1 hX hrr
    go_loopw [5] (fun i wr => ∃ r : Nat, 1 ≤ r ∧ r ≤ 8 ∧ i = .int .i64 r ∧ Hid (∀ j, 1 ≤ j → j < r → broken p win j < 0) ∧ Below w.heap.size w wr ∧ wr.cell? ⟨w.heap.size, 0, none⟩ = some (.slice A p.length cap) ∧ wr.cell? ⟨w.heap.size, 1, none⟩ = some (.int .i64 win) ∧ w.heap.size < wr.heap.size) (fun i _ => 8 - (intOf i).toNat)
    case atStart => exact ⟨1, by omega, by omega, rfl, hide (fun j h1 h2 => by omega), s0, e0, e1, hz1⟩
    case round =>
      clear s0 e0 e1 hz1
      obtain ⟨r, hr1, hr8, rfl, hyes, hB, hb0, hb1, hz⟩ := hrel
      have hz2 := hB.size
      by_cases hlt : r ≤ 7
      · have hcall := hide (hbr.out r hr1 hlt)
        have hat2 := hide (hat.out r hr1 hlt hyes.out)
        have hnx : Hid (broken p win r < 0 → ∀ j, 1 ≤ j → j < r + 1 → broken p win j < 0) := hide fun h j h1 h2 => by
          by_cases e : j = r
          · subst e; exact h
          · exact hyes.out j h1 (by omega)
        have hlt' : (r : Int) ≤ 7 := by omega
        clear hyes hat hok hbr
        generalize broken p win r = x at *
        by_cases hx : x < 0
        · replace hnx := hide (hnx.out hx)
          clear hat2
          go_wp2_with (go_at_call 57; (with_reducible refine (stayf (G := w.heap.size + 1) (hcall.out _ hB) (by omega)).mono ?_); rintro e w1 ⟨rfl, hc1, hf1, hz1, hB1⟩)
          refine ⟨⟨r + 1, by omega, by omega, rfl, hnx, hB.trans (hB1.out.mono (by omega)), ?_, ?_, by omega⟩, by simp [intOf]; omega⟩
          · exact (hc1 _ _ (by omega)).trans hb0
          · exact (hc1 _ _ (by omega)).trans hb1
        · replace hat2 := hide (hat2.out (by omega))
          clear hnx
          go_wp2_with (go_at_call 57; (with_reducible refine (stayf (G := w.heap.size + 1) (hcall.out _ hB) (by omega)).mono ?_); rintro e w1 ⟨rfl, hc1, hf1, hz1, hB1⟩)
          go_ret3
          exact ⟨tup3 hat2.out, hB.trans (hB1.out.mono (by omega))⟩
      · obtain rfl : r = 8 := by omega
        have hv := hide (hok.out hyes.out)
        clear hyes hat hok hbr
        go_wp2
        go_ret3
        exact ⟨tup3 hv.out, hB⟩

set_option maxRecDepth 100000 in
theorem rcright_any (p : List Sp) (win : Int) (v : Value) (w : World) (h : RdS w w.heap.size v p) (hcl : ∀ s ∈ p, s.cmps.length ≤ 1000) :
    Calls Try.prog 31 #[ptV v win] w fun e w' => e = .returned (.bool (mayB p win)) ∧ Below w.heap.size w w' := by
  have hc := hide fun w1 (hb : Below w.heap.size w w1) => rcheck_any p win v w1 (h.below hb hb.size) hcl
  obtain ⟨A, cap, rfl⟩ := h.len
  have hv : Hid (mayB p win = ((checkF p win).2.2 == 0)) := hide (by simp [mayB]; rfl)
  clear h
  generalize checkF p win = t at *
  obtain ⟨a, b, c⟩ := t
  simp only at hc hv
  go_enter Try.func31, Try.ntmps31
  go_wp2_with (go_at_call 29; (with_reducible refine (hc.out _ ((Below.refl _ _).alloc (Nat.le_refl _) _)).mono ?_); rintro e w1 ⟨rfl, hB1⟩)
  go_ret
  exact ⟨by rw [hv.out]; rfl, ((Below.refl _ _).alloc (Nat.le_refl _) _).trans (hB1.mono (by simp))⟩

set_option maxRecDepth 100000 in
set_option maxHeartbeats 1000000 in
theorem rtail_any (p : List Sp) (win : Int) (v : Value) (w : World) (h : RdS w w.heap.size v p) :
    Calls Try.prog 33 #[ptV v win] w fun e w' => e = .returned (.int .i64 (tailF p)) ∧ Below w.heap.size w w' := by
  have htl : Hid (tailF p = (p.length : Int) - 1 - lastPos p p.length) := hide rfl
  obtain ⟨A, cap, b, off, rfl, h2, h3, h4, h5⟩ := h
  go_enter Try.func33, Try.ntmps33
  go_wp2
  go_loopw [3] (fun i wr => ∃ m : Nat, m ≤ p.length ∧ i = .int .i64 m ∧ Hid (lastPos p p.length = lastPos p (p.length - m)) ∧ Below w.heap.size w wr ∧ wr.cell? ⟨w.heap.size, 0, none⟩ = some (.slice A p.length cap)) (fun i _ => p.length - (intOf i).toNat)
  case atStart => exact ⟨0, by omega, rfl, hide rfl, (Below.refl _ _).alloc (Nat.le_refl _) _, by simp⟩
  case round =>
    obtain ⟨m, hm, rfl, hl, hB, hbx⟩ := hrel
    by_cases hlt : m < p.length
    · obtain ⟨j, hj⟩ : ∃ j, p.length = j + 1 + m := ⟨p.length - 1 - m, by omega⟩
      have hjl : j < p.length := by omega
      obtain ⟨rfl, hb⟩ := h4 (by omega)
      have hx := List.getElem?_eq_getElem hjl
      obtain ⟨cs, ⟨cv, rfl, -⟩, hat⟩ := h5 j p[j] hx
      have c0 := (hat.below hB hb).c6.1
      have hst : stepAt p j = p[j] := by simp [stepAt, hx]
      have hl2 : Hid (lastPos p p.length = if p[j].neg then lastPos p j else j) := hide (by
        rw [hl.out, show p.length - m = j + 1 by omega, lastPos, hst])
      have hjm : (p.length : Int) - 1 - m = j := by omega
      have hw1 : IntKind.i64.wrap ((p.length : Int) - 1) = (p.length : Int) - 1 := IntWalk.i64_in _ (by omega)
      have hw2 : IntKind.i64.wrap (j : Int) = j := IntWalk.i64_in _ (by omega)
      have hjp : (j : Int) < p.length := by omega
      have hnx : Hid (p.length - (m + 1) = j) := hide (by omega)
      have hrv : Hid ((p.length : Int) - 1 - j = m) := hide (by omega)
      clear hl hat h5 hx hst hj
      generalize p[j] = s at *
      obtain ⟨neg, kind, mn, mx, strict, cmps⟩ := s
      simp only at c0 hl2
      cases neg with
      | true =>
        go_wp2
        exact ⟨⟨m + 1, by omega, rfl, hide (by rw [hl2.out, hnx.out]; rfl), hB, hbx⟩, by simp [intOf]; omega⟩
      | false =>
        go_wp2
        go_ret
        exact ⟨by rw [htl.out, hl2.out]; exact congrArg (fun z => Ending.returned (Value.int .i64 z)) hrv.out.symm, hB⟩
    · obtain rfl : m = p.length := by omega
      clear h4 h5
      have hv : Hid (tailF p = p.length) := hide (by rw [htl.out, hl.out, Nat.sub_self]; simp only [lastPos]; omega)
      clear hl htl
      go_wp2
      go_ret
      exact ⟨by rw [hv.out]; rfl, hB⟩

set_option maxRecDepth 100000 in
set_option maxHeartbeats 1000000 in
theorem rhead_any (p : List Sp) (win i : Int) (v : Value) (w : World) (h : RdS w w.heap.size v p) :
    Calls Try.prog 35 #[ptV v win, .int .i64 i] w fun e w' => e = .returned (.int .i64 (headF p i)) ∧ Below w.heap.size w w' := by
  have hll := RdL.lenle h
  by_cases h0 : i < 0
  · have hv : headF p i = -1 := by simp [headF]; omega
    rw [hv]
    obtain ⟨A, cap, rfl⟩ := h.len
    clear h hv
    go_enter Try.func35, Try.ntmps35
    go_wp2
    go_ret
    exact ⟨rfl, (Below.refl _ _).alloc (Nat.le_refl _) _⟩
  by_cases h1 : (p.length : Int) ≤ i
  · have hv : headF p i = -1 := by simp [headF]; omega
    rw [hv]
    obtain ⟨A, cap, rfl⟩ := h.len
    clear h hv
    go_enter Try.func35, Try.ntmps35
    go_wp2
    go_ret
    exact ⟨rfl, (Below.refl _ _).alloc (Nat.le_refl _) _⟩
  obtain ⟨k, rfl⟩ : ∃ k : Nat, i = k := ⟨i.toNat, by omega⟩
  have hk : k < p.length := by omega
  have hv : headF p k = lastPos p k := by
    have e2 : 0 ≤ (k : Int) ∧ (k : Int) < p.length := by omega
    rw [headF, if_pos e2]; rfl
  rw [hv]
  clear hv h0 h1
  obtain ⟨A, cap, b, off, rfl, h2, h3, h4, h5⟩ := h
  obtain ⟨rfl, hb⟩ := h4 (by omega)
  clear h4
  have hk' : (k : Int) < p.length := by omega
  go_enter Try.func35, Try.ntmps35
  go_wp2
  go_loopw [5] (fun i wr => ∃ x : Int, -1 ≤ x ∧ x < k ∧ i = .int .i64 x ∧ Hid (lastPos p k = lastPos p (x + 1).toNat) ∧ Below w.heap.size w wr ∧ wr.cell? ⟨w.heap.size, 0, none⟩ = some (.slice (some ⟨b, off, none⟩) p.length cap)) (fun i _ => (intOf i + 1).toNat)
  case atStart => exact ⟨_, by omega, by omega, rfl, hide (by congr 1; omega), (Below.refl _ _).alloc (Nat.le_refl _) _, by simp⟩
  case round =>
    obtain ⟨x, hx1, hx2, rfl, hl, hB, hbx⟩ := hrel
    by_cases hx : x = -1
    · subst hx
      clear h5 hx1 hx2
      go_wp2
      go_ret
      exact ⟨by rw [hl.out]; rfl, hB⟩
    · obtain ⟨m, rfl⟩ : ∃ m : Nat, x = m := ⟨x.toNat, by omega⟩
      have hm : m < p.length := by omega
      have hx := List.getElem?_eq_getElem hm
      obtain ⟨cs, ⟨cv, rfl, -⟩, hat⟩ := h5 m p[m] hx
      have c0 := (hat.below hB hb).c6.1
      have hst : stepAt p m = p[m] := by simp [stepAt, hx]
      have hl2 : Hid (lastPos p k = if p[m].neg then lastPos p m else m) := hide (by
        rw [hl.out, show ((m : Int) + 1).toNat = m + 1 by omega, lastPos, hst])
      clear hl hat h5 hx hst hx1
      generalize p[m] = s at *
      obtain ⟨neg, kind, mn, mx, strict, cmps⟩ := s
      simp only at c0 hl2
      have hmp : (m : Int) < p.length := by omega
      cases neg with
      | true =>
        go_wp2
        exact ⟨⟨(m : Int) - 1, by omega, by omega, rfl, hide (by rw [hl2.out, show ((m : Int) - 1 + 1).toNat = m by omega]; rfl), hB, hbx⟩, by simp [intOf]⟩
      | false =>
        go_wp2
        go_ret
        exact ⟨by rw [hl2.out]; rfl, hB⟩
end Go.Proofs.Ytidddeobachjgaa
