/- Positive steps, how long a pattern is, rows of ints held against each other: the walks. -/
import Derived.Test.YtidddeobachjgaaLibI
import Derived.Test.YtidddeobachjgaaPlC
import Derived.Test.YtidddeobachjgaaLibQ
import Derived.Deep.QuietTactic
import Derived.BigQuiet
namespace Go.Proofs.Ytidddeobachjgaa
open Go.RowKit
attribute [local go_sem] grown_cell grown_frozen

theorem jret_int {k : IntKind} {a b : Int} (h : a = b) : Ending.returned (.int k a) = .returned (.int k b) := by rw [h]
theorem jret_bool {a b : Bool} (h : a = b) : Ending.returned (.bool a) = .returned (.bool b) := by rw [h]
theorem jdrewN {B : Nat} {a w : World} (h : Below B a w) (n : Nat) : Below B a (w.drewN n) := ⟨h.os, h.tape, h.output, h.size, h.block⟩

/-- A contract that leaves the world as it was, as one that leaves what was there as it was. -/
theorem below_of_same {P : Program} {f : FuncId} {args : Array Value} {E : Ending} {w : World} (h : Calls P f args w fun e w' => e = E ∧ w = w') : Calls P f args w fun e w' => e = E ∧ Below w.heap.size w w' :=
  h.mono fun _ _ ⟨he, hw⟩ => ⟨he, hw ▸ Below.refl _ _⟩

set_option maxRecDepth 100000 in
set_option maxHeartbeats 1000000 in
theorem positive_any (p : List Sp) (win : Int) (sv : Value) (w : World) (h : RdS w w.heap.size sv p) (hlen : p.length ≤ 900000) :
    Calls Try.prog 22 #[ptV sv win] w fun e w' => (∃ v, e = .returned v ∧ OwI w' w.heap.size v (positive p)) ∧ Below w.heap.size w w' := by
  obtain ⟨A, cap, b, off, rfl, h2, h3, h4, h5⟩ := h
  go_enter Try.func22, Try.ntmps22
  go_wp2
  go_loopw [2, 8] (fun l i wr => ∃ k : Nat, k ≤ p.length ∧ i = .int .i64 k ∧ OwI wr (w.heap.size + 1) l (positive (p.take k)) ∧ Below w.heap.size w wr ∧ w.heap.size + 1 ≤ wr.heap.size) (fun _ i _ => p.length - (intOf i).toNat)
  case atStart => exact ⟨0, by omega, rfl, OwI.nil _ _, (Below.refl _ _).alloc (Nat.le_refl _) _, by simp⟩
  case round =>
    obtain ⟨k, hk, rfl, hown, hB, hz⟩ := hrel
    by_cases hlt : k < p.length
    · obtain ⟨rfl, hb⟩ := h4 (by omega)
      have hx := List.getElem?_eq_getElem hlt
      obtain ⟨cs, ⟨cv, rfl, A', cap', b', off', rfl, g2, g3, g4, g5⟩, hat⟩ := h5 k p[k] hx
      obtain ⟨c0, c1, c2, c3, c4, c5⟩ := (hat.below hB hb).c6
      have hs := hide (pos_snoc hx)
      have hpl := pos_len p k
      clear g4 g5 hat h5 hx
      generalize hL : positive (p.take k) = l at *
      generalize p[k] = s at *
      obtain ⟨neg, kind, mn, mx, strict, cmps⟩ := s
      simp only at c0 c1 c2 c3 c4 c5 hs
      clear hL
      cases neg with
      | true =>
        go_wp2
        refine ⟨⟨k + 1, by omega, rfl, ?_, hB.alloc hB.size _, by simp; omega⟩, by simp [intOf]; omega⟩
        rw [hs.out]
        simpa using hown.alloc _
      | false =>
        go_wp2_with (at_builtin; refine app1 (.tmp 16) (.tmp 18) rfl rfl rfl rfl ((hown.alloc _).alloc _) (by simp; rfl) (by omega) (by simp; omega) ?_; intro v1 w1 hown1 hg1)
        refine ⟨⟨k + 1, by omega, rfl, by rw [hs.out]; simpa using hown1, ?_, ?_⟩, by simp [intOf]; omega⟩
        · exact ((hB.alloc hB.size _).alloc (by simp; omega) _).grown hg1 (by simp; omega) (fun j e => by have := (hown.lt j e).1; omega)
        · have := hg1.size
          simp at this
          omega
    · obtain rfl : k = p.length := by omega
      rw [List.take_of_length_le (Nat.le_refl _)] at hown
      go_wp2
      go_ret
      exact ⟨⟨_, rfl, hown.mono (by omega)⟩, hB⟩

theorem jne_at {α : Type} {xs ys : List α} {k : Nat} {x y : α} (hx : xs[k]? = some x) (hy : ys[k]? = some y) (h : x ≠ y) : xs ≠ ys := by
  rintro rfl
  rw [hx] at hy
  exact h (Option.some.inj hy)
theorem jtake_snoc {α : Type} {xs ys : List α} {k : Nat} {x : α} (hx : xs[k]? = some x) (hy : ys[k]? = some x) (h : xs.take k = ys.take k) : xs.take (k + 1) = ys.take (k + 1) := by
  rw [List.take_add_one, List.take_add_one, h, hx, hy]
theorem jeq_of_take {α : Type} {xs ys : List α} (hl : xs.length = ys.length) (h : xs.take xs.length = ys.take xs.length) : xs = ys := by
  rwa [List.take_of_length_le (Nat.le_refl _), List.take_of_length_le (by omega)] at h

set_option maxRecDepth 100000 in
theorem ints_any (xs ys : List Int) (v u : Value) (w : World) (hv : RdI w w.heap.size v xs) (hu : RdI w w.heap.size u ys) :
    Calls Try.prog 23 #[v, u] w fun e w' => e = .returned (.bool (decide (xs = ys))) ∧ Below w.heap.size w w' := by
  obtain ⟨A, cap, b, off, rfl, h2, h3, h4, h5⟩ := hv
  obtain ⟨A', cap', b', off', rfl, g2, g3, g4, g5⟩ := hu
  by_cases hne : xs.length ≠ ys.length
  · have hf : decide (xs = ys) = false := by simp; rintro rfl; exact hne rfl
    have hd : ((xs.length : Int) == ys.length) = false := by simp; omega
    have hd' : ((xs.length : Int) != ys.length) = true := by simp; omega
    clear h4 h5 g4 g5
    rw [hf]
    go_enter Try.func23, Try.ntmps23
    go_wp2
    go_ret
    exact ⟨rfl, Below.refl _ _⟩
  have hl := hide (Decidable.not_not.1 hne)
  have hd : ((xs.length : Int) == ys.length) = true := by simp [hl.out]
  have hd' : ((xs.length : Int) != ys.length) = false := by simp [hl.out]
  clear hne
  go_enter Try.func23, Try.ntmps23
  go_wp2
  clear hd hd'
  go_loopw [5] (fun i wr => ∃ k : Nat, k ≤ xs.length ∧ i = .int .i64 k ∧ Hid (xs.take k = ys.take k) ∧ Below w.heap.size w wr) (fun i _ => xs.length - (intOf i).toNat)
  case atStart => exact ⟨0, by omega, rfl, hide rfl, Below.refl _ _⟩
  case round =>
    obtain ⟨k, hk, rfl, heq, hB⟩ := hrel
    by_cases hlt : k < xs.length
    · have hlt' : k < ys.length := by have := hl.out; omega
      obtain ⟨rfl, hb⟩ := h4 (by omega)
      obtain ⟨rfl, hb'⟩ := g4 (by omega)
      have hx := List.getElem?_eq_getElem hlt
      have hy := List.getElem?_eq_getElem hlt'
      obtain ⟨vs, rfl, hat⟩ := h5 k xs[k] hx
      obtain ⟨us, rfl, hat'⟩ := g5 k ys[k] hy
      have c0 := (hat.below hB hb).c1
      have d0 := (hat'.below hB hb').c1
      simp only [Nat.mul_one] at c0 d0
      have hno : xs[k] ≠ ys[k] → Hid (decide (xs = ys) = false) := fun h => hide (by simpa using jne_at hx hy h)
      have hyes : xs[k] = ys[k] → Hid (xs.take (k + 1) = ys.take (k + 1)) := fun h => hide (jtake_snoc hx (h ▸ hy) heq.out)
      have hno := hide hno
      have hyes := hide hyes
      clear hat hat' h5 g5 hx hy heq
      generalize xs[k] = c at *
      generalize ys[k] = d at *
      have hz := hB.size
      by_cases hcd : c = d
      · have hn := hyes.out hcd
        subst hcd
        clear hno hyes
        go_wp2
        go_quiet (fail)
        go_wp2
        exact ⟨⟨k + 1, by omega, rfl, hn, jdrewN hB _⟩, by simp [intOf]; omega⟩
      · have hn := hno.out hcd
        have e1 : (c == d) = false := by simpa using hcd
        have e2 : (c != d) = true := by simpa using hcd
        clear hno hyes
        go_wp2
        go_quiet (fail)
        go_wp2
        go_ret
        exact ⟨jret_bool hn.out.symm, jdrewN hB _⟩
    · obtain rfl : k = xs.length := by omega
      have hi : Hid (decide (xs = ys) = true) := hide (by simpa using jeq_of_take hl.out heq.out)
      clear h4 h5 g4 g5
      go_wp2
      go_ret
      exact ⟨jret_bool hi.out.symm, hB⟩

theorem long1_any (n : Int) (w : World) : Calls Try.prog 51 #[.int .i64 n] w fun e w' => e = .returned (.int .i64 (within n)) ∧ w = w' := by
  go_enter Try.func51, Try.ntmps51
  go_wp2
  all_goals go_ret
  all_goals exact ⟨jret_int (by unfold within; omega), rfl⟩

def minW (s : Sp) : Int := within s.min
def maxW (s : Sp) : Int := within s.max
theorem least_sum (p : List Sp) : leastL p = sumAt minW p (positive p) := (sumAt_pos minW p).symm
theorem most_sum (p : List Sp) : mostL p = sumAt maxW p (positive p) := (sumAt_pos maxW p).symm
theorem stepAt_get {p : List Sp} {j : Nat} {s : Sp} (h : p[j]? = some s) : stepAt p j = s := by simp [stepAt, h]

set_option maxRecDepth 100000 in
set_option maxHeartbeats 2000000 in
theorem long_any (p : List Sp) (win : Int) (sv : Value) (w : World) (h : RdS w w.heap.size sv p) (h41 : p.length ≤ 41) :
    Calls Try.prog 21 #[ptV sv win] w fun e w' => e = .returned (.tuple #[.int .i64 (leastL p), .int .i64 (mostL p)]) ∧ Below w.heap.size w w' := by
  have hpos := hide fun w1 (hb : Below w.heap.size w w1) => positive_any p win sv w1 (h.below hb hb.size) (by omega)
  obtain ⟨A, cap, b, off, rfl, h2, h3, h4, h5⟩ := h
  rw [least_sum, most_sum]
  go_enter Try.func21, Try.ntmps21
  go_wp2_with (go_at_call 22; (with_reducible refine (hpos.out _ ((Below.refl _ _).alloc (Nat.le_refl _) _)).mono ?_); rintro e w1 ⟨⟨v1, rfl, hown⟩, hB1⟩; obtain ⟨A1, cap1, rfl⟩ := hown.form)
  have hlen : (positive p).length ≤ 41 := by have := posFrom_len p 0; unfold positive; omega
  have hmem : ∀ x ∈ positive p, ∃ (k : Nat) (s : Sp), x = (k : Int) ∧ p[k]? = some s ∧ s.neg = false := fun x hx => by
    obtain ⟨k, s, h1, h2, h3⟩ := posFrom_mem (i := 0) hx
    exact ⟨k, s, by simpa using h1, h2, h3⟩
  have s0 : Below w.heap.size w w1 := ((Below.refl _ _).alloc (Nat.le_refl _) _).trans (hB1.mono (by simp))
  have s1 : w1.cell? ⟨w.heap.size, 0, none⟩ = some (.slice A p.length cap) := (hB1.cell (p := ⟨w.heap.size, 0, none⟩) (by simp)).trans (by simp)
  have s2 : w.heap.size < w1.heap.size := by have := hB1.size; simp at this; omega
  have hrd := hown.rd
  clear hB1 hown hpos
  obtain ⟨A2, cap2, b2, off2, e2, r2, r3, r4, r5⟩ := hrd
  obtain ⟨rfl, rfl⟩ : A1 = A2 ∧ cap1 = cap2 := by injection e2 with e1 _ e3; exact ⟨e1, e3⟩
  clear e2
  have hmm := hide hmem
  clear hmem
  generalize hL : positive p = l at *
  have hLh := hide hL
  clear hL
  go_loopw [2, 3, 10] (fun x y i wr => ∃ k : Nat, k ≤ l.length ∧ i = .int .i64 k ∧ x = .int .i64 (sumAt minW p (l.take k)) ∧ y = .int .i64 (sumAt maxW p (l.take k)) ∧ Below w1.heap.size w1 wr) (fun _ _ i _ => l.length - (intOf i).toNat)
  case atStart => exact ⟨0, by omega, rfl, by simp [sumAt], by simp [sumAt], Below.refl _ _⟩
  case round =>
    obtain ⟨k, hk, rfl, rfl, rfl, hB⟩ := hrel
    by_cases hlt : k < l.length
    · obtain ⟨rfl, hb2⟩ := r4 (by omega)
      have hx := List.getElem?_eq_getElem hlt
      obtain ⟨vs, rfl, hat⟩ := r5 k l[k] hx
      have c0 := (hat.below hB hb2).c1
      simp only [Nat.mul_one] at c0
      obtain ⟨j, s, hj, hs, -⟩ := hmm.out l[k] (by simp)
      have hjp := (List.getElem?_eq_some_iff.1 hs).1
      obtain ⟨rfl, hb⟩ := h4 (by omega)
      obtain ⟨cs, ⟨cv, rfl, hcv⟩, hat2⟩ := h5 j s hs
      obtain ⟨d0, d1, d2, d3, d4, d5⟩ := ((hat2.below s0 hb).below hB (by omega)).c6
      have n1 := hide (sumAt_snoc (f := minW) (p := p) hx)
      have n2 := hide (sumAt_snoc (f := maxW) (p := p) hx)
      have q1 := sumAt_bd (f := minW) (fun s => within_bd _) p (l.take k)
      have q2 := sumAt_bd (f := maxW) (fun s => within_bd _) p (l.take k)
      have q3 : (l.take k).length ≤ 41 := by rw [List.length_take]; omega
      rw [hj] at c0 n1 n2
      have hst : stepAt p ((j : Int).toNat) = s := stepAt_get (by simpa using hs)
      rw [hst] at n1 n2
      have t1 := (hB.cell (p := ⟨w.heap.size, 0, none⟩) s2).trans s1
      have hm1 := hide (long1_any s.min)
      have hm2 := hide (long1_any s.max)
      have m1 := within_bd s.min
      have m2 := within_bd s.max
      have N1 : Hid (sumAt minW p (l.take (k + 1)) = sumAt minW p (l.take k) + within s.min) := n1
      have N2 : Hid (sumAt maxW p (l.take (k + 1)) = sumAt maxW p (l.take k) + within s.max) := n2
      clear n1 n2 hst hj hs hat hat2 hx r5 h5 hcv
      generalize sumAt minW p (l.take k) = x at *
      generalize sumAt maxW p (l.take k) = y at *
      generalize within s.min = a at *
      generalize within s.max = c at *
      generalize l[k] = lk at *
      obtain ⟨q11, q12⟩ := q1
      obtain ⟨q21, q22⟩ := q2
      obtain ⟨m11, m12⟩ := m1
      obtain ⟨m21, m22⟩ := m2
      have u1 : IntKind.i64.wrap (x + a) = x + a := IntWalk.i64_in _ (by omega)
      have u2 : IntKind.i64.wrap (y + c) = y + c := IntWalk.i64_in _ (by omega)
      have hjp' : (j : Int) < p.length := by omega
      have hz0 : w.heap.size < wr.heap.size := Nat.lt_of_lt_of_le s2 hB.size
      have hz1 : b < wr.heap.size := by omega
      have hz2 : b2 < wr.heap.size := Nat.lt_of_lt_of_le hb2 hB.size
      go_wp2
      refine wp_region_grown wr.heap.size (Nat.le_refl _) (by kernel_rfl) (by kernel_rfl) ?_
      repeat (any_goals (first | go_big_quiet_step ((first | (go_at_call 51; (with_reducible exact calls_grown (Nat.le_refl _) (fun w => below_of_same (hm1.out w)))) | (go_at_call 51; (with_reducible exact calls_grown (Nat.le_refl _) (fun w => below_of_same (hm2.out w)))))) | quiet_step (fail)))
      refine wpQuiet_nil ?_; intro _ hw'; obtain ⟨nq, hw''⟩ := hw'; subst hw''
      go_wp2
      refine ⟨⟨k + 1, by omega, rfl, by rw [N1.out], by rw [N2.out], hB.trans ((grown_below _ _ _).mono hB.size)⟩, by simp [intOf]; omega⟩
    · obtain rfl : k = l.length := by omega
      clear h4 h5 r4 r5
      go_wp2
      go_ret2
      simp only [List.take_of_length_le (Nat.le_refl _)]
      exact ⟨by rw [hLh.out]; rfl, s0.trans (hB.mono s0.size)⟩
end Go.Proofs.Ytidddeobachjgaa
