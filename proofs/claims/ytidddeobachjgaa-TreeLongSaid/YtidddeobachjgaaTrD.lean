/- Which patterns may be written: the walks. -/
import Derived.Test.YtidddeobachjgaaTrC
namespace Go.Proofs.Ytidddeobachjgaa
open Go.RowKit

def cmBad (c : Cm) : Bool := !c.ok
def spBad (s : Sp) : Bool := !s.ok

set_option maxRecDepth 100000 in
theorem idx_cmp (cs : List Cm) (v : Value) (w : World) (h : RdC w w.heap.size v cs) :
    Calls Try.prog 59 #[v, .func (.func 43) #[] #[]] w fun e w' => e = .returned (.int .i64 (idxB cmBad cs)) ∧ Below w.heap.size w w' := by
  obtain ⟨A, cap, b, off, rfl, h2, h3, h4, h5⟩ := h
  go_enter Try.func59, Try.ntmps59
  go_wp2
  go_loopw [8] (fun i wr => ∃ k : Nat, k ≤ cs.length ∧ i = .int .i64 k ∧ Hid ((cs.take k).any cmBad = false) ∧ Below w.heap.size w wr) (fun i _ => cs.length - (intOf i).toNat)
  case atStart => exact ⟨0, by omega, rfl, hide rfl, Below.refl _ _⟩
  case round =>
    obtain ⟨k, hk, rfl, hno, hB⟩ := hrel
    by_cases hlt : k < cs.length
    · obtain ⟨rfl, hb⟩ := h4 (by omega)
      have hx := List.getElem?_eq_getElem hlt
      obtain ⟨vs, ⟨rfl, -⟩, hat⟩ := h5 k cs[k] hx
      obtain ⟨c0, c1, c2, c3, c4, c5, c6, c7, c8⟩ := (hat.below hB hb).c9
      have hcall := hide (cmp_any cs[k])
      have hnx : cmBad cs[k] = false → Hid ((cs.take (k + 1)).any cmBad = false) := fun h => hide (by rw [any_snoc hx, hno.out, h]; rfl)
      have hat1 : cmBad cs[k] = true → Hid (idxB cmBad cs = k) := fun h => hide (idx_at hx h hno.out)
      clear hat h5 hx hno
      generalize cs[k] = c at *
      have hz := hB.size
      cases hok : c.ok with
      | true =>
        rw [hok] at hcall
        replace hnx := hnx (by simp [cmBad, hok])
        clear hat1 hok
        go_wp2_with (go_at_call 43; (with_reducible refine (hcall.out _).mono ?_); rintro e w1 ⟨rfl, hB1⟩)
        exact ⟨⟨k + 1, by omega, rfl, hnx, hB.trans (hB1.mono hz)⟩, by simp [intOf]; omega⟩
      | false =>
        rw [hok] at hcall
        replace hat1 := hat1 (by simp [cmBad, hok])
        clear hnx hok
        go_wp2_with (go_at_call 43; (with_reducible refine (hcall.out _).mono ?_); rintro e w1 ⟨rfl, hB1⟩)
        go_ret
        exact ⟨ret_int hat1.out.symm, hB.trans (hB1.mono hz)⟩
    · obtain rfl : k = cs.length := by omega
      have hi := hide (idx_none (by rw [List.take_of_length_le (Nat.le_refl _)] at hno; exact hno.out))
      clear h4 h5
      go_wp2
      go_ret
      exact ⟨ret_int hi.out.symm, hB⟩

theorem contains_cmp (cs : List Cm) (v : Value) (w : World) (h : RdC w w.heap.size v cs) :
    Calls Try.prog 42 #[v, .func (.func 43) #[] #[]] w fun e w' => e = .returned (.bool (cs.any cmBad)) ∧ Below w.heap.size w w' := by
  have hi := hide (idx_cmp cs v w h)
  have ha := hide (idx_any cmBad cs)
  generalize idxB cmBad cs = r at *
  go_enter Try.func42, Try.ntmps42
  go_wp2_with (go_at_call 59; (with_reducible refine hi.out.mono ?_); rintro e w1 ⟨rfl, hB1⟩)
  go_ret
  exact ⟨ret_bool ha.out, hB1⟩

set_option maxRecDepth 100000 in
set_option maxHeartbeats 1000000 in
theorem wrong_any (s : Sp) (cv : Value) (w : World) (h : RdC w w.heap.size cv s.cmps) :
    Calls Try.prog 40 #[spV s cv] w fun e w' => e = .returned (.bool (spBad s)) ∧ Below w.heap.size w w' := by
  have hc := hide fun w1 (hb : Below w.heap.size w w1) => contains_cmp s.cmps cv w1 (h.below hb hb.size)
  obtain ⟨neg, kind, mn, mx, strict, cmps⟩ := s
  have hv : spBad ⟨neg, kind, mn, mx, strict, cmps⟩ = !(numB kind && numB mn && numB mx && !cmps.any cmBad) := by
    have := any_not Cm.ok cmps
    simp only [spBad, Sp.ok]
    rw [show cmps.any cmBad = !cmps.all Cm.ok from this, Bool.not_not]
  rw [hv]; clear hv
  have h1 := hide (number_any kind)
  have h2 := hide (number_any mn)
  have h3 := hide (number_any mx)
  simp only at hc
  generalize numB kind = b1 at *
  generalize numB mn = b2 at *
  generalize numB mx = b3 at *
  generalize cmps.any cmBad = b4 at *
  cases b1 <;> cases b2 <;> cases b3
  all_goals
    go_enter Try.func40, Try.ntmps40
    go_wp2_with (first | (go_at_call 41; (with_reducible refine (h1.out _).mono ?_); rintro e w1 ⟨rfl, rfl⟩) | (go_at_call 41; (with_reducible refine (h2.out _).mono ?_); rintro e w1 ⟨rfl, rfl⟩) | (go_at_call 41; (with_reducible refine (h3.out _).mono ?_); rintro e w1 ⟨rfl, rfl⟩) | (go_at_call 42; (with_reducible refine (stayf (G := w.heap.size + 1) (hc.out _ ((Below.refl _ _).alloc (Nat.le_refl _) _)) (by simp)).mono ?_); rintro e w1 ⟨rfl, hc1, hf1, hz1, hB1⟩))
    go_ret
    refine ⟨ret_bool (by simp), ?_⟩
    repeat (first | exact Below.refl _ _ | refine Below.trans ?_ (Below.mono (Hid.out ‹Hid (Below _ _ _)›) (by first | omega | (simp; omega))) | refine Below.setCell ?_ (by first | omega | (simp; done) | (simp; omega)) _ | refine Below.alloc ?_ (by first | omega | (simp; done) | (simp; omega)) _ | refine Below.drew ?_)
end Go.Proofs.Ytidddeobachjgaa
