/- Plain laws: a pattern that may be written, with fewer steps and comparisons; with one number out of its bounds. -/
import Derived.Test.YtidddeobachjgaaPlO
namespace Go.Proofs.Ytidddeobachjgaa

section
variable {p : List Sp} {win : Int} {at_ : Nat} {s : Sp}
/-- Fewer comparisons of a step, and only the steps up to it. -/
def lessP (p : List Sp) (at_ m : Nat) (s : Sp) : List Sp := (p.set at_ { s with cmps := s.cmps.take m }).take (at_ + 1)
theorem less_right (h : rightB p win = true) (hs : p[at_]? = some s) (m : Nat) : rightB (lessP p at_ m s) win = true := by
  obtain ⟨g1, g2, g3, g4⟩ := right_all.1 h
  refine right_all.2 ⟨?_, ?_, g3, fun t ht => ?_⟩
  · simp [lessP]; omega
  · simp [lessP]; omega
  · have ht := List.mem_of_mem_take ht
    rcases List.mem_or_eq_of_mem_set ht with hm | rfl
    · exact g4 t hm
    · have := g4 s (List.mem_of_getElem? hs)
      simp only [Sp.ok, Bool.and_eq_true] at this ⊢
      refine ⟨this.1, ?_⟩
      rw [List.all_eq_true] at this ⊢
      exact fun c hc => this.2 c (List.mem_of_mem_take hc)
theorem size_nonneg (l : List Sp) : 0 ≤ sizeF l := by
  induction l with
  | nil => simp [sizeF]
  | cons x l ih => simp only [sizeF, List.map_cons, List.sum_cons] at *; omega
theorem less_size (hs : p[at_]? = some s) (m : Nat) : sizeF (lessP p at_ m s) ≤ sizeF p := by
  have h1 : sizeF (lessP p at_ m s) ≤ sizeF (p.set at_ { s with cmps := s.cmps.take m }) := by
    unfold lessP
    conv => rhs; rw [← List.take_append_drop (at_ + 1) (p.set at_ { s with cmps := s.cmps.take m })]
    have := size_nonneg ((p.set at_ { s with cmps := s.cmps.take m }).drop (at_ + 1))
    simp only [sizeF, List.map_append, List.sum_append_int] at *
    omega
  have h2 : sizeF (p.set at_ { s with cmps := s.cmps.take m }) ≤ sizeF p := by
    clear h1
    induction p generalizing at_ with
    | nil => simp at hs
    | cons x p ih =>
      cases at_ with
      | zero =>
        simp at hs
        subst hs
        simp only [List.set_cons_zero, sizeF, List.map_cons, List.sum_cons, List.length_take]
        omega
      | succ k =>
        have := ih (at_ := k) (by simpa using hs)
        simp only [List.set_cons_succ, sizeF, List.map_cons, List.sum_cons] at *
        omega
  omega
theorem right_bad {p : List Sp} {win : Int} {t : Sp} (hm : t ∈ p) (hb : t.ok = false) : rightB p win = false := by
  cases h : rightB p win with
  | false => rfl
  | true => have := (right_all.1 h).2.2.2 t hm; rw [hb] at this; cases this
theorem mem_set_self (hs : p[at_]? = some s) (t : Sp) : t ∈ p.set at_ t := by
  have := (List.getElem?_eq_some_iff.1 hs).1
  exact List.mem_of_getElem? (List.getElem?_set_self this)
theorem same_bad (hs : p[at_]? = some s) {t : Sp} (hne : t ≠ s) (w1 w2 : Int) : sameB p w1 (p.set at_ t) w2 = false := by
  have : p ≠ p.set at_ t := by
    intro e
    have hl := (List.getElem?_eq_some_iff.1 hs).1
    have h1 := List.getElem?_set_self (a := t) hl
    rw [← e, hs] at h1
    exact hne (Option.some.inj h1).symm
  simp [sameB, this]
theorem num_neg {n : Int} (h : 1 ≤ n) : numB (-n) = false := by simp [numB]; omega
theorem num_big {n : Int} (h : 1 ≤ n) : numB (1099511627776 + n) = false := by simp [numB]; omega
theorem bad_0 (h : rightB p win = true) (hs : p[at_]? = some s) {n : Int} (hn : 1 ≤ n) : rightB (p.set at_ { s with kind := -n }) win = false ∧ sameB p win (p.set at_ { s with kind := -n }) win = false := by
  refine ⟨right_bad (mem_set_self hs _) (by simp [Sp.ok, num_neg hn]), same_bad hs (fun e => ?_) _ _⟩
  have h1 := (right_all.1 h).2.2.2 s (List.mem_of_getElem? hs)
  have h2 : s.kind = -n := by rw [← congrArg Sp.kind e]
  simp only [Sp.ok, Bool.and_eq_true, numB, decide_eq_true_eq] at h1
  omega
theorem bad_1 (h : rightB p win = true) (hs : p[at_]? = some s) {n : Int} (hn : 1 ≤ n) : rightB (p.set at_ { s with max := 1099511627776 + n }) win = false ∧ sameB p win (p.set at_ { s with max := 1099511627776 + n }) win = false := by
  refine ⟨right_bad (mem_set_self hs _) (by simp [Sp.ok, num_big hn]), same_bad hs (fun e => ?_) _ _⟩
  have h1 := (right_all.1 h).2.2.2 s (List.mem_of_getElem? hs)
  have h2 : s.max = 1099511627776 + n := by rw [← congrArg Sp.max e]
  simp only [Sp.ok, Bool.and_eq_true, numB, decide_eq_true_eq] at h1
  omega
theorem bad_2 (h : rightB p win = true) {n : Int} (hn : 1 ≤ n) : rightB p (-n) = false ∧ sameB p win p (-n) = false := by
  have h1 := (right_all.1 h).2.2.1
  simp only [numB, decide_eq_true_eq] at h1
  have hne : ¬ (win = -n) := by omega
  exact ⟨by simp [rightB, num_neg hn], by simp [sameB, hne]⟩
theorem bad_c (hs : p[at_]? = some s) {c : Cm} (hc : c.ok = false) : rightB (p.set at_ { s with cmps := s.cmps ++ [c] }) win = false ∧ sameB p win (p.set at_ { s with cmps := s.cmps ++ [c] }) win = false := by
  refine ⟨right_bad (mem_set_self hs _) (by simp [Sp.ok, List.all_append, hc]), same_bad hs (fun e => ?_) _ _⟩
  have := congrArg (fun t : Sp => t.cmps.length) e
  simp at this
theorem cbad_3 {n : Int} (hn : 1 ≤ n) : (⟨6 + min n 99, ⟨0, 0, 0, 0⟩, ⟨0, 0, 0, 0⟩⟩ : Cm).ok = false := by simp [Cm.ok]; omega
theorem cbad_4 {n : Int} (hn : 1 ≤ n) : (⟨3, ⟨0, 0, n, 0⟩, ⟨0, 0, 0, 0⟩⟩ : Cm).ok = false := by simp [Cm.ok, Tm.ok]; omega
theorem cbad_5 {n : Int} (hn : 1 ≤ n) : (⟨3, ⟨0, 0, 0, 0⟩, ⟨2, 0, 0, n⟩⟩ : Cm).ok = false := by simp [Cm.ok, Tm.ok]; omega
theorem cbad_6 {n : Int} (hn : 1 ≤ n) : (⟨3, ⟨0, -1099511627776 - n, 0, 0⟩, ⟨0, 0, 0, 0⟩⟩ : Cm).ok = false := by simp [Cm.ok, Tm.ok]; omega
theorem cbad_7 {n : Int} (hn : 1 ≤ n) : (⟨3, ⟨5, 0, 0, 25 + n⟩, ⟨0, 0, 0, 0⟩⟩ : Cm).ok = false := by simp [Cm.ok, Tm.ok]; omega
end
end Go.Proofs.Ytidddeobachjgaa
