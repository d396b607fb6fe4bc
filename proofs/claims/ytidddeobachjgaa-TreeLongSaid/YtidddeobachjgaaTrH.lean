/- When two patterns are the same: the walks of tree.Same and of the reference's Same. -/
import Derived.Test.YtidddeobachjgaaTrG
namespace Go.Proofs.Ytidddeobachjgaa
open Go.RowKit
attribute [local go_sem] grown_cell grown_frozen

theorem RdL.len {α : Type} {sz : Nat} {cells : World → Nat → α → List Value → Prop} {w : World} {B : Nat} {v : Value} {xs : List α} (h : RdL sz cells w B v xs) : ∃ A cap, v = .slice A xs.length cap := by
  obtain ⟨A, cap, b, off, rfl, -⟩ := h
  exact ⟨A, cap, rfl⟩

set_option maxRecDepth 100000 in
set_option maxHeartbeats 1000000 in
theorem equalfunc_any (p q : List Sp) (v u : Value) (w : World) (hv : RdS w w.heap.size v p) (hu : RdS w w.heap.size u q) :
    Calls Try.prog 45 #[v, u, .func (.func 46) #[] #[]] w fun e w' => e = .returned (.bool (decide (p = q))) ∧ Below w.heap.size w w' := by
  obtain ⟨A, cap, b, off, rfl, h2, h3, h4, h5⟩ := hv
  obtain ⟨A', cap', b', off', rfl, g2, g3, g4, g5⟩ := hu
  by_cases hne : p.length ≠ q.length
  · have hf : decide (p = q) = false := by simp; rintro rfl; exact hne rfl
    have hd : ((p.length : Int) == q.length) = false := by simp; omega
    have hd' : ((p.length : Int) != q.length) = true := by simp; omega
    clear h4 h5 g4 g5
    rw [hf]
    go_enter Try.func45, Try.ntmps45
    go_wp2
    go_ret
    exact ⟨rfl, Below.refl _ _⟩
  have hl := hide (Decidable.not_not.1 hne)
  have hd : ((p.length : Int) == q.length) = true := by simp [hl.out]
  have hd' : ((p.length : Int) != q.length) = false := by simp [hl.out]
  clear hne
  go_enter Try.func45, Try.ntmps45
  go_wp2
  clear hd hd'
  go_loopw [17] (fun i wr => ∃ k : Nat, k ≤ p.length ∧ i = .int .i64 k ∧ Hid (p.take k = q.take k) ∧ Below w.heap.size w wr) (fun i _ => p.length - (intOf i).toNat)
  case atStart => exact ⟨0, by omega, rfl, hide rfl, Below.refl _ _⟩
  case round =>
    obtain ⟨k, hk, rfl, heq, hB⟩ := hrel
    by_cases hlt : k < p.length
    · have hlt' : k < q.length := by have := hl.out; omega
      obtain ⟨rfl, hb⟩ := h4 (by omega)
      obtain ⟨rfl, hb'⟩ := g4 (by omega)
      have hx := List.getElem?_eq_getElem hlt
      have hy := List.getElem?_eq_getElem hlt'
      obtain ⟨vs, ⟨cv, rfl, hcv⟩, hat⟩ := h5 k p[k] hx
      obtain ⟨us, ⟨cu, rfl, hcu⟩, hat'⟩ := g5 k q[k] hy
      obtain ⟨c0, c1, c2, c3, c4, c5⟩ := (hat.below hB hb).c6
      obtain ⟨d0, d1, d2, d3, d4, d5⟩ := (hat'.below hB hb').c6
      obtain ⟨Ac, kc, rfl⟩ := RdL.len hcv
      obtain ⟨Au, ku, rfl⟩ := RdL.len hcu
      have hb1 : b' < wr.heap.size := Nat.lt_of_lt_of_le hb' hB.size
      have hno : p[k] ≠ q[k] → Hid (decide (p = q) = false) := fun h => hide (by simpa using ne_at hx hy h)
      have hyes : p[k] = q[k] → Hid (p.take (k + 1) = q.take (k + 1)) := fun h => hide (take_snoc hx (h ▸ hy) heq.out)
      have hno := hide hno
      have hyes := hide hyes
      have hcall := hide fun w1 (hb1 : Below wr.heap.size wr w1) => same1_any p[k] q[k] _ _ w1 ((hcv.below hB hB.size).below hb1 hb1.size) ((hcu.below hB hB.size).below hb1 hb1.size)
      clear hat hat' h5 g5 hx hy heq hcv hcu
      generalize p[k] = c at *
      generalize q[k] = d at *
      have hz := hB.size
      by_cases hcd : c = d
      · have hn := hyes.out hcd
        subst hcd
        simp only [decide_true] at hcall
        clear hno hyes
        go_wp2_with (go_at_call 46; (with_reducible refine (stayf (G := wr.heap.size + 2) (hcall.out _ (((Below.refl _ _).alloc (Nat.le_refl _) _).alloc (by simp) _)) (by simp)).mono ?_); rintro e w1 ⟨rfl, hc1, hf1, hz1, hB1⟩)
        refine ⟨⟨k + 1, by omega, rfl, hn, ?_⟩, by simp [intOf]; omega⟩
        repeat (first | exact Below.refl _ _ | refine Below.trans ?_ (Below.mono (Hid.out ‹Hid (Below _ _ _)›) (by first | omega | (simp; omega))) | refine Below.setCell ?_ (by first | omega | (simp; done) | (simp; omega)) _ | refine Below.alloc ?_ (by first | omega | (simp; done) | (simp; omega)) _ | refine Below.drew ?_)
      · have hn := hno.out hcd
        simp only [hcd, decide_false] at hcall
        clear hno hyes hcd
        go_wp2_with (go_at_call 46; (with_reducible refine (stayf (G := wr.heap.size + 2) (hcall.out _ (((Below.refl _ _).alloc (Nat.le_refl _) _).alloc (by simp) _)) (by simp)).mono ?_); rintro e w1 ⟨rfl, hc1, hf1, hz1, hB1⟩)
        go_ret
        refine ⟨ret_bool hn.out.symm, ?_⟩
        repeat (first | exact Below.refl _ _ | refine Below.trans ?_ (Below.mono (Hid.out ‹Hid (Below _ _ _)›) (by first | omega | (simp; omega))) | refine Below.setCell ?_ (by first | omega | (simp; done) | (simp; omega)) _ | refine Below.alloc ?_ (by first | omega | (simp; done) | (simp; omega)) _ | refine Below.drew ?_)
    · obtain rfl : k = p.length := by omega
      have hi : Hid (decide (p = q) = true) := hide (by simpa using eq_of_take hl.out heq.out)
      clear h4 h5 g4 g5
      go_wp2
      go_ret
      exact ⟨ret_bool hi.out.symm, hB⟩

set_option maxHeartbeats 1000000 in
theorem same_any (p q : List Sp) (wp wq : Int) (v u : Value) (w : World) (hv : RdS w w.heap.size v p) (hu : RdS w w.heap.size u q) :
    Calls Try.prog 18 #[ptV v wp, ptV u wq] w fun e w' => e = .returned (.bool (sameB p wp q wq)) ∧ Below w.heap.size w w' := by
  have hc := hide fun w1 (hb1 : Below w.heap.size w w1) => equalfunc_any p q v u w1 (hv.below hb1 hb1.size) (hu.below hb1 hb1.size)
  by_cases h : wp = wq
  · subst h
    have hs : sameB p wp q wp = decide (p = q) := by simp [sameB]
    rw [hs]
    generalize decide (p = q) = r at *
    go_enter Try.func18, Try.ntmps18
    go_wp2_with (go_at_call 45; (with_reducible refine (stayf (G := w.heap.size + 2) (hc.out _ (((Below.refl _ _).alloc (Nat.le_refl _) _).alloc (by simp) _)) (by simp)).mono ?_); rintro e w1 ⟨rfl, hc1, hf1, hz1, hB1⟩)
    go_ret
    refine ⟨rfl, ?_⟩
    repeat (first | exact Below.refl _ _ | refine Below.trans ?_ (Below.mono (Hid.out ‹Hid (Below _ _ _)›) (by first | omega | (simp; omega))) | refine Below.setCell ?_ (by first | omega | (simp; done) | (simp; omega)) _ | refine Below.alloc ?_ (by first | omega | (simp; done) | (simp; omega)) _ | refine Below.drew ?_)
  · have hs : sameB p wp q wq = false := by simp [sameB, h]
    rw [hs]
    have h1' : (wp == wq) = false := by simpa using h
    clear h hs
    go_enter Try.func18, Try.ntmps18
    go_wp2
    go_ret
    exact ⟨rfl, ((Below.refl _ _).alloc (Nat.le_refl _) _).alloc (by simp) _⟩
end Go.Proofs.Ytidddeobachjgaa
