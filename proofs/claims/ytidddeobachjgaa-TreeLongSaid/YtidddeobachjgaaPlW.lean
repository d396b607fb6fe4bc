/- The statement TreeLong: a pattern with one step more. No program. -/
import Derived.Test.YtidddeobachjgaaPlA
namespace Go.Proofs.Ytidddeobachjgaa

theorem posFrom_snoc (i : Nat) (p : List Sp) (s : Sp) : posFrom i (p ++ [s]) = posFrom i p ++ (if s.neg then [] else [((i + p.length : Nat) : Int)]) := by
  induction p generalizing i with
  | nil => cases h : s.neg <;> simp [posFrom, h]
  | cons a l ih =>
    have h1 : i + 1 + l.length = i + (a :: l).length := by simp; omega
    cases h : a.neg <;> simp only [List.cons_append, posFrom, h, ih, h1, if_true, Bool.false_eq_true, if_false]
theorem positive_snoc (p : List Sp) (s : Sp) : positive (p ++ [s]) = positive p ++ (if s.neg then [] else [(p.length : Int)]) := by
  simp [positive, posFrom_snoc]
theorem leastL_snoc (p : List Sp) (s : Sp) : leastL (p ++ [s]) = leastL p + (if s.neg then 0 else within s.min) := by simp [leastL]
theorem mostL_snoc (p : List Sp) (s : Sp) : mostL (p ++ [s]) = mostL p + (if s.neg then 0 else within s.max) := by simp [mostL]
theorem sizeF_snoc (p : List Sp) (s : Sp) : sizeF (p ++ [s]) = sizeF p + (1 + 3 * (s.cmps.length : Int)) := by simp [sizeF]
theorem within_minmax (n : Int) : within n = min (max n 0) 1099511627776 := by unfold within; omega
theorem within_le (n : Int) : 0 ≤ within n ∧ within n ≤ 1099511627776 := by unfold within; omega
theorem leastL_le (p : List Sp) : 0 ≤ leastL p ∧ leastL p ≤ 1099511627776 * (p.length : Int) := by
  induction p with
  | nil => simp [leastL]
  | cons a l ih =>
    have h := within_le a.min
    simp only [leastL, List.map_cons, List.sum_cons, List.length_cons] at ih ⊢
    split <;> omega
theorem mostL_le (p : List Sp) : 0 ≤ mostL p ∧ mostL p ≤ 1099511627776 * (p.length : Int) := by
  induction p with
  | nil => simp [mostL]
  | cons a l ih =>
    have h := within_le a.max
    simp only [mostL, List.map_cons, List.sum_cons, List.length_cons] at ih ⊢
    split <;> omega
theorem sizeF_le (p : List Sp) (h : ∀ s ∈ p, s.cmps.length ≤ 20) : 0 ≤ sizeF p ∧ sizeF p ≤ 61 * (p.length : Int) := by
  induction p with
  | nil => simp [sizeF]
  | cons a l ih =>
    have h1 := ih fun s hs => h s (List.mem_cons_of_mem _ hs)
    have h2 := h a (List.mem_cons_self ..)
    simp only [sizeF, List.map_cons, List.sum_cons, List.length_cons] at h1 ⊢
    omega
theorem positive_len (p : List Sp) : (positive p).length ≤ p.length := by
  have : ∀ i (p : List Sp), (posFrom i p).length ≤ p.length := by
    intro i p
    induction p generalizing i with
    | nil => simp [posFrom]
    | cons a l ih =>
      have := ih (i + 1)
      simp only [posFrom]
      split <;> simp <;> omega
  exact this 0 p
end Go.Proofs.Ytidddeobachjgaa
