/- Plain laws: tails and heads. -/
import Derived.Test.YtidddeobachjgaaPlF
namespace Go.Proofs.Ytidddeobachjgaa

theorem lastPos_rng (p : List Sp) (n : Nat) : -1 ≤ lastPos p n ∧ lastPos p n < n := by
  induction n with
  | zero => simp [lastPos]
  | succ n ih => simp only [lastPos]; split <;> omega
theorem lastPos_pos (p : List Sp) (n : Nat) (h : 0 ≤ lastPos p n) : (stepAt p (lastPos p n).toNat).neg = false := by
  induction n with
  | zero => simp [lastPos] at h
  | succ n ih =>
    simp only [lastPos] at h ⊢
    split
    · rename_i hn
      simp only [hn, if_true] at h
      exact ih h
    · rename_i hn
      simpa using hn
theorem lastPos_gap (p : List Sp) (n k : Nat) (h : lastPos p n < k) (hk : k < n) : (stepAt p k).neg = true := by
  induction n with
  | zero => omega
  | succ n ih =>
    simp only [lastPos] at h
    split at h
    · rename_i hn
      by_cases e : k = n
      · subst e; exact hn
      · exact ih h (by omega)
    · omega
theorem step_get {p : List Sp} {k : Nat} (h : k < p.length) : ∃ s, p[k]? = some s ∧ stepAt p k = s :=
  ⟨p[k], List.getElem?_eq_getElem h, by simp [stepAt, List.getElem?_eq_getElem h]⟩
/-- What there is behind and at the last positive one of the first n. -/
theorem last_facts (p : List Sp) (n : Nat) (hn : n ≤ p.length) : ∃ l : Int, lastPos p n = l ∧ -1 ≤ l ∧ l < n ∧ (∀ k : Nat, l < k → k < n → ∃ s, p[k]? = some s ∧ s.neg = true) ∧ (l = -1 ∨ ∃ (j : Nat) (s : Sp), l = j ∧ p[j]? = some s ∧ s.neg = false) := by
  obtain ⟨h1, h2⟩ := lastPos_rng p n
  refine ⟨_, rfl, h1, h2, fun k hk hkn => ?_, ?_⟩
  · obtain ⟨s, e1, e2⟩ := step_get (p := p) (k := k) (by omega)
    exact ⟨s, e1, by rw [← e2]; exact lastPos_gap p n k hk hkn⟩
  · by_cases e : lastPos p n = -1
    · exact .inl e
    · right
      obtain ⟨s, e1, e2⟩ := step_get (p := p) (k := (lastPos p n).toNat) (by omega)
      exact ⟨_, s, by omega, e1, by rw [← e2]; exact lastPos_pos p n (by omega)⟩
end Go.Proofs.Ytidddeobachjgaa
