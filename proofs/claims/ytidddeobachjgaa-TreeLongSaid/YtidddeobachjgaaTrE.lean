/- Which patterns may be written: the walks of tree.Right and of the reference's Right. -/
import Derived.Test.YtidddeobachjgaaTrD
namespace Go.Proofs.Ytidddeobachjgaa
open Go.RowKit

set_option maxRecDepth 100000 in
theorem idx_step (p : List Sp) (v : Value) (w : World) (h : RdS w w.heap.size v p) :
    Calls Try.prog 61 #[v, .func (.func 40) #[] #[]] w fun e w' => e = .returned (.int .i64 (idxB spBad p)) ∧ Below w.heap.size w w' := by
  obtain ⟨A, cap, b, off, rfl, h2, h3, h4, h5⟩ := h
  go_enter Try.func61, Try.ntmps61
  go_wp2
  go_loopw [8] (fun i wr => ∃ k : Nat, k ≤ p.length ∧ i = .int .i64 k ∧ Hid ((p.take k).any spBad = false) ∧ Below w.heap.size w wr) (fun i _ => p.length - (intOf i).toNat)
  case atStart => exact ⟨0, by omega, rfl, hide rfl, Below.refl _ _⟩
  case round =>
    obtain ⟨k, hk, rfl, hno, hB⟩ := hrel
    by_cases hlt : k < p.length
    · obtain ⟨rfl, hb⟩ := h4 (by omega)
      have hx := List.getElem?_eq_getElem hlt
      obtain ⟨vs, ⟨cv, rfl, hcv⟩, hat⟩ := h5 k p[k] hx
      obtain ⟨c0, c1, c2, c3, c4, c5⟩ := (hat.below hB hb).c6
      have hcall := hide (wrong_any p[k] cv wr (hcv.below hB hB.size))
      have hnx : spBad p[k] = false → Hid ((p.take (k + 1)).any spBad = false) := fun h => hide (by rw [any_snoc hx, hno.out, h]; rfl)
      have hat1 : spBad p[k] = true → Hid (idxB spBad p = k) := fun h => hide (idx_at hx h hno.out)
      clear hat h5 hx hno hcv
      generalize p[k] = s at *
      have hz := hB.size
      cases hok : spBad s with
      | false =>
        rw [hok] at hcall
        replace hnx := hnx hok
        clear hat1 hok
        go_wp2_with (go_at_call 40; (with_reducible refine hcall.out.mono ?_); rintro e w1 ⟨rfl, hB1⟩)
        exact ⟨⟨k + 1, by omega, rfl, hnx, hB.trans (hB1.mono hz)⟩, by simp [intOf]; omega⟩
      | true =>
        rw [hok] at hcall
        replace hat1 := hat1 hok
        clear hnx hok
        go_wp2_with (go_at_call 40; (with_reducible refine hcall.out.mono ?_); rintro e w1 ⟨rfl, hB1⟩)
        go_ret
        exact ⟨ret_int hat1.out.symm, hB.trans (hB1.mono hz)⟩
    · obtain rfl : k = p.length := by omega
      have hi := hide (idx_none (by rw [List.take_of_length_le (Nat.le_refl _)] at hno; exact hno.out))
      clear h4 h5
      go_wp2
      go_ret
      exact ⟨ret_int hi.out.symm, hB⟩

theorem contains_step (p : List Sp) (v : Value) (w : World) (h : RdS w w.heap.size v p) :
    Calls Try.prog 44 #[v, .func (.func 40) #[] #[]] w fun e w' => e = .returned (.bool (p.any spBad)) ∧ Below w.heap.size w w' := by
  have hi := hide (idx_step p v w h)
  have ha := hide (idx_any spBad p)
  generalize idxB spBad p = r at *
  go_enter Try.func44, Try.ntmps44
  go_wp2_with (go_at_call 61; (with_reducible refine hi.out.mono ?_); rintro e w1 ⟨rfl, hB1⟩)
  go_ret
  exact ⟨ret_bool ha.out, hB1⟩

theorem RdS.len {w : World} {B : Nat} {v : Value} {p : List Sp} (h : RdS w B v p) : ∃ A cap, v = .slice A p.length cap := by
  obtain ⟨A, cap, b, off, rfl, -⟩ := h
  exact ⟨A, cap, rfl⟩
theorem RdL.lenle {α : Type} {sz : Nat} {cells : World → Nat → α → List Value → Prop} {w : World} {B : Nat} {v : Value} {xs : List α} (h : RdL sz cells w B v xs) : xs.length ≤ 9223372036854775807 := by
  obtain ⟨A, cap, b, off, rfl, h1, h2, -⟩ := h
  omega

set_option maxRecDepth 100000 in
set_option maxHeartbeats 1000000 in
theorem right_any (p : List Sp) (win : Int) (v : Value) (w : World) (h : RdS w w.heap.size v p) :
    Calls Try.prog 16 #[ptV v win] w fun e w' => e = .returned (.bool (rightB p win)) ∧ Below w.heap.size w w' := by
  have hc := hide fun w1 (hb : Below w.heap.size w w1) => contains_step p v w1 (h.below hb hb.size)
  have hl := RdL.lenle h
  obtain ⟨A, cap, rfl⟩ := h.len
  have h1 := hide (number_any win)
  have ha : p.any spBad = !p.all Sp.ok := any_not Sp.ok p
  by_cases h0 : p.length = 0
  · obtain rfl := List.eq_nil_of_length_eq_zero h0
    clear hc h h1 ha hl
    go_enter Try.func16, Try.ntmps16
    go_wp2
    go_ret
    exact ⟨rfl, (Below.refl _ _).alloc (Nat.le_refl _) _⟩
  by_cases h26 : 26 < p.length
  · have hf : rightB p win = false := by simp [rightB]; omega
    rw [hf]
    clear hf h0
    go_enter Try.func16, Try.ntmps16
    go_wp2
    go_ret
    exact ⟨rfl, (Below.refl _ _).alloc (Nat.le_refl _) _⟩
  have hv : rightB p win = (numB win && !p.any spBad) := by
    rw [ha, Bool.not_not]
    have e1 : 0 < p.length := by omega
    have e2 : p.length ≤ 26 := by omega
    simp [rightB, e1, e2]
  rw [hv]; clear hv ha
  replace h0 : 0 < p.length := by omega
  replace h26 : p.length ≤ 26 := by omega
  generalize numB win = b1 at *
  generalize p.any spBad = b2 at *
  generalize p.length = n at *
  cases b1
  all_goals
    go_enter Try.func16, Try.ntmps16
    go_wp2_with (first | (go_at_call 41; (with_reducible refine (h1.out _).mono ?_); rintro e w1 ⟨rfl, rfl⟩) | (go_at_call 44; (with_reducible refine (stayf (G := w.heap.size + 1) (hc.out _ ((Below.refl _ _).alloc (Nat.le_refl _) _)) (by simp)).mono ?_); rintro e w1 ⟨rfl, hc1, hf1, hz1, hB1⟩))
    go_ret
    refine ⟨ret_bool (by simp), ?_⟩
    repeat (first | exact Below.refl _ _ | refine Below.trans ?_ (Below.mono (Hid.out ‹Hid (Below _ _ _)›) (by first | omega | (simp; omega))) | refine Below.setCell ?_ (by first | omega | (simp; done) | (simp; omega)) _ | refine Below.alloc ?_ (by first | omega | (simp; done) | (simp; omega)) _ | refine Below.drew ?_)
end Go.Proofs.Ytidddeobachjgaa
