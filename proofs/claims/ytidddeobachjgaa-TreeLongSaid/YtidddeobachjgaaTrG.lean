/- When two patterns are the same: the walks. -/
import Derived.Test.YtidddeobachjgaaTrF
import Derived.Test.YtidddeobachjgaaLibQ
import Derived.Deep.QuietTactic
import Derived.BigQuiet
namespace Go.Proofs.Ytidddeobachjgaa
open Go.RowKit

theorem bdrewN {B : Nat} {a w : World} (h : Below B a w) (n : Nat) : Below B a (w.drewN n) := ⟨h.os, h.tape, h.output, h.size, h.block⟩
theorem ne_at {α : Type} {xs ys : List α} {k : Nat} {x y : α} (hx : xs[k]? = some x) (hy : ys[k]? = some y) (h : x ≠ y) : xs ≠ ys := by
  rintro rfl
  rw [hx] at hy
  exact h (Option.some.inj hy)
theorem take_snoc {α : Type} {xs ys : List α} {k : Nat} {x : α} (hx : xs[k]? = some x) (hy : ys[k]? = some x) (h : xs.take k = ys.take k) : xs.take (k + 1) = ys.take (k + 1) := by
  rw [List.take_add_one, List.take_add_one, h, hx, hy]
theorem eq_of_take {α : Type} {xs ys : List α} (hl : xs.length = ys.length) (h : xs.take xs.length = ys.take xs.length) : xs = ys := by
  rwa [List.take_of_length_le (Nat.le_refl _), List.take_of_length_le (by omega)] at h
theorem cm_eq (a b : Cm) : (a.op = b.op ∧ (a.l.k = b.l.k ∧ a.l.n = b.l.n ∧ a.l.s = b.l.s ∧ a.l.r = b.l.r) ∧ (a.r.k = b.r.k ∧ a.r.n = b.r.n ∧ a.r.s = b.r.s ∧ a.r.r = b.r.r)) ↔ a = b :=
  ⟨fun ⟨h1, h2, h3⟩ => Cm.ext' ⟨h1, Tm.ext' h2, Tm.ext' h3⟩, by rintro rfl; simp⟩

theorem eq_cmV (a b : Cm) (w : World) : (Op.equalIn 10000 36 (cmV a) (cmV b)).run Try.prog w = .ok (decide (a = b)) w := by
  rw [eq_cm]
  congr 1
  exact decide_eq_decide.2 (cm_eq a b)

set_option maxRecDepth 100000 in
theorem equal_cmp (xs ys : List Cm) (v u : Value) (w : World) (hv : RdC w w.heap.size v xs) (hu : RdC w w.heap.size u ys) :
    Calls Try.prog 47 #[v, u] w fun e w' => e = .returned (.bool (decide (xs = ys))) ∧ Below w.heap.size w w' := by
  obtain ⟨A, cap, b, off, rfl, h2, h3, h4, h5⟩ := hv
  obtain ⟨A', cap', b', off', rfl, g2, g3, g4, g5⟩ := hu
  by_cases hne : xs.length ≠ ys.length
  · have hf : decide (xs = ys) = false := by simp; rintro rfl; exact hne rfl
    have hd : ((xs.length : Int) == ys.length) = false := by simp; omega
    have hd' : ((xs.length : Int) != ys.length) = true := by simp; omega
    clear h4 h5 g4 g5
    rw [hf]
    go_enter Try.func47, Try.ntmps47
    go_wp2
    go_ret
    exact ⟨rfl, Below.refl _ _⟩
  have hl := hide (Decidable.not_not.1 hne)
  have hd : ((xs.length : Int) == ys.length) = true := by simp [hl.out]
  have hd' : ((xs.length : Int) != ys.length) = false := by simp [hl.out]
  clear hne
  go_enter Try.func47, Try.ntmps47
  go_wp2
  clear hd hd'
  go_loopw [13] (fun i wr => ∃ k : Nat, k ≤ xs.length ∧ i = .int .i64 k ∧ Hid (xs.take k = ys.take k) ∧ Below w.heap.size w wr) (fun i _ => xs.length - (intOf i).toNat)
  case atStart => exact ⟨0, by omega, rfl, hide rfl, Below.refl _ _⟩
  case round =>
    obtain ⟨k, hk, rfl, heq, hB⟩ := hrel
    by_cases hlt : k < xs.length
    · have hlt' : k < ys.length := by have := hl.out; omega
      obtain ⟨rfl, hb⟩ := h4 (by omega)
      obtain ⟨rfl, hb'⟩ := g4 (by omega)
      have hx := List.getElem?_eq_getElem hlt
      have hy := List.getElem?_eq_getElem hlt'
      obtain ⟨vs, ⟨rfl, -⟩, hat⟩ := h5 k xs[k] hx
      obtain ⟨us, ⟨rfl, -⟩, hat'⟩ := g5 k ys[k] hy
      obtain ⟨c0, c1, c2, c3, c4, c5, c6, c7, c8⟩ := (hat.below hB hb).c9
      obtain ⟨d0, d1, d2, d3, d4, d5, d6, d7, d8⟩ := (hat'.below hB hb').c9
      have hno : xs[k] ≠ ys[k] → Hid (decide (xs = ys) = false) := fun h => hide (by simpa using ne_at hx hy h)
      have hyes : xs[k] = ys[k] → Hid (xs.take (k + 1) = ys.take (k + 1)) := fun h => hide (take_snoc hx (h ▸ hy) heq.out)
      have hno := hide hno
      have hyes := hide hyes
      have he := eq_cmV xs[k] ys[k]
      clear hat hat' h5 g5 hx hy heq
      generalize xs[k] = c at *
      generalize ys[k] = d at *
      have hz := hB.size
      by_cases hcd : c = d
      · have hn := hyes.out hcd
        simp only [hcd, decide_true] at he
        subst hcd
        clear hno hyes
        go_wp2
        go_quiet (fail)
        go_wp2
        exact ⟨⟨k + 1, by omega, rfl, hn, bdrewN hB _⟩, by simp [intOf]; omega⟩
      · have hn := hno.out hcd
        simp only [hcd, decide_false] at he
        clear hno hyes
        go_wp2
        go_quiet (fail)
        go_wp2
        go_ret
        exact ⟨ret_bool hn.out.symm, bdrewN hB _⟩
    · obtain rfl : k = xs.length := by omega
      have hi : Hid (decide (xs = ys) = true) := hide (by simpa using eq_of_take hl.out heq.out)
      clear h4 h5 g4 g5
      go_wp2
      go_ret
      exact ⟨ret_bool hi.out.symm, hB⟩

theorem sp_eq {an bn ag bs : Bool} {ak am ax bk bm bx : Int} {ac bc : List Cm} : ((⟨an, ak, am, ax, ag, ac⟩ : Sp) = ⟨bn, bk, bm, bx, bs, bc⟩) ↔ an = bn ∧ ak = bk ∧ am = bm ∧ ax = bx ∧ ag = bs ∧ ac = bc := by simp
theorem sp_ne {an bn ag bs : Bool} {ak am ax bk bm bx : Int} {ac bc : List Cm} (h : ¬ (an = bn ∧ ak = bk ∧ am = bm ∧ ax = bx ∧ ag = bs ∧ ac = bc)) : decide ((⟨an, ak, am, ax, ag, ac⟩ : Sp) = ⟨bn, bk, bm, bx, bs, bc⟩) = false := by simpa using h

set_option maxRecDepth 100000 in
set_option maxHeartbeats 2000000 in
theorem same1_any (a b : Sp) (av bv : Value) (w : World) (ha : RdC w w.heap.size av a.cmps) (hb : RdC w w.heap.size bv b.cmps) :
    Calls Try.prog 46 #[spV a av, spV b bv] w fun e w' => e = .returned (.bool (decide (a = b))) ∧ Below w.heap.size w w' := by
  have hc := hide fun w1 (hb1 : Below w.heap.size w w1) => equal_cmp a.cmps b.cmps av bv w1 (ha.below hb1 hb1.size) (hb.below hb1 hb1.size)
  clear ha hb
  obtain ⟨an, ak, am, ax, ag, ac⟩ := a
  obtain ⟨bn, bk, bm, bx, bs, bc⟩ := b
  simp only at hc
  by_cases h1 : an = bn
  rotate_left
  · rw [sp_ne (fun h => h1 h.1)]
    have h1' : (an == bn) = false := by simpa using h1
    clear h1
    go_enter Try.func46, Try.ntmps46
    go_wp2
    go_ret
    exact ⟨rfl, ((Below.refl _ _).alloc (Nat.le_refl _) _).alloc (by simp) _⟩
  subst h1
  by_cases h2 : ak = bk
  rotate_left
  · rw [sp_ne (fun h => h2 (by obtain ⟨q1, q2, q3, q4, q5, q6⟩ := h; assumption))]
    have h1' : (ak == bk) = false := by simpa using h2
    clear h2
    go_enter Try.func46, Try.ntmps46
    go_wp2
    go_ret
    exact ⟨rfl, ((Below.refl _ _).alloc (Nat.le_refl _) _).alloc (by simp) _⟩
  subst h2
  by_cases h3 : am = bm
  rotate_left
  · rw [sp_ne (fun h => h3 (by obtain ⟨q1, q2, q3, q4, q5, q6⟩ := h; assumption))]
    have h1' : (am == bm) = false := by simpa using h3
    clear h3
    go_enter Try.func46, Try.ntmps46
    go_wp2
    go_ret
    exact ⟨rfl, ((Below.refl _ _).alloc (Nat.le_refl _) _).alloc (by simp) _⟩
  subst h3
  by_cases h4 : ax = bx
  rotate_left
  · rw [sp_ne (fun h => h4 (by obtain ⟨q1, q2, q3, q4, q5, q6⟩ := h; assumption))]
    have h1' : (ax == bx) = false := by simpa using h4
    clear h4
    go_enter Try.func46, Try.ntmps46
    go_wp2
    go_ret
    exact ⟨rfl, ((Below.refl _ _).alloc (Nat.le_refl _) _).alloc (by simp) _⟩
  subst h4
  by_cases h5 : ag = bs
  rotate_left
  · rw [sp_ne (fun h => h5 (by obtain ⟨q1, q2, q3, q4, q5, q6⟩ := h; assumption))]
    have h1' : (ag == bs) = false := by simpa using h5
    clear h5
    go_enter Try.func46, Try.ntmps46
    go_wp2
    go_ret
    exact ⟨rfl, ((Below.refl _ _).alloc (Nat.le_refl _) _).alloc (by simp) _⟩
  subst h5
  rw [show decide ((⟨an, ak, am, ax, ag, ac⟩ : Sp) = ⟨an, ak, am, ax, ag, bc⟩) = decide (ac = bc) by simp]
  generalize decide (ac = bc) = r at *
  go_enter Try.func46, Try.ntmps46
  go_wp2_with (go_at_call 47; (with_reducible refine (stayf (G := w.heap.size + 2) (hc.out _ (((Below.refl _ _).alloc (Nat.le_refl _) _).alloc (by simp) _)) (by simp)).mono ?_); rintro e w1 ⟨rfl, hc1, hf1, hz1, hB1⟩)
  go_ret
  refine ⟨rfl, ?_⟩
  repeat (first | exact Below.refl _ _ | refine Below.trans ?_ (Below.mono (Hid.out ‹Hid (Below _ _ _)›) (by first | omega | (simp; omega))) | refine Below.setCell ?_ (by first | omega | (simp; done) | (simp; omega)) _ | refine Below.alloc ?_ (by first | omega | (simp; done) | (simp; omega)) _ | refine Below.drew ?_)
end Go.Proofs.Ytidddeobachjgaa
