/- Plain laws about patterns: positive steps, lengths. -/
import Derived.Test.YtidddeobachjgaaPlB
namespace Go.Proofs.Ytidddeobachjgaa

theorem posFrom_append (p q : List Sp) (i : Nat) : posFrom i (p ++ q) = posFrom i p ++ posFrom (i + p.length) q := by
  induction p generalizing i with
  | nil => simp [posFrom]
  | cons s p ih =>
    simp only [List.cons_append, posFrom, List.length_cons]
    rw [ih, show i + (p.length + 1) = i + 1 + p.length by omega]
    split <;> simp
theorem pos_snoc {p : List Sp} {k : Nat} {s : Sp} (h : p[k]? = some s) : positive (p.take (k + 1)) = positive (p.take k) ++ (if s.neg then [] else [(k : Int)]) := by
  have hk := (List.getElem?_eq_some_iff.1 h).1
  have hl : (p.take k).length = k := by simp; omega
  simp only [positive, List.take_add_one, h, Option.toList_some]
  rw [posFrom_append, hl]
  simp [posFrom]
theorem posFrom_len (p : List Sp) (i : Nat) : (posFrom i p).length ≤ p.length := by
  induction p generalizing i with
  | nil => simp [posFrom]
  | cons s p ih =>
    have := ih (i + 1)
    simp only [posFrom]
    split <;> simp <;> omega
theorem pos_len (p : List Sp) (k : Nat) : (positive (p.take k)).length ≤ k := by
  have := posFrom_len (p.take k) 0
  have h2 : (p.take k).length ≤ k := List.length_take_le _ _
  unfold positive
  omega
theorem posFrom_mem {p : List Sp} {i : Nat} {x : Int} (h : x ∈ posFrom i p) : ∃ (k : Nat) (s : Sp), x = ((i + k : Nat) : Int) ∧ p[k]? = some s ∧ s.neg = false := by
  induction p generalizing i with
  | nil => simp [posFrom] at h
  | cons s p ih =>
    simp only [posFrom] at h
    split at h
    · obtain ⟨k, t, rfl, h1, h2⟩ := ih h
      exact ⟨k + 1, t, by omega, by simpa using h1, h2⟩
    · rcases List.mem_cons.1 h with rfl | h
      · exact ⟨0, s, by simp, rfl, by rename_i hn; simpa using hn⟩
      · obtain ⟨k, t, rfl, h1, h2⟩ := ih h
        exact ⟨k + 1, t, by omega, by simpa using h1, h2⟩

/-- The sum of the lesser numbers of the first k positive steps. -/
def sumAt (f : Sp → Int) (p : List Sp) (l : List Int) : Int := (l.map fun i => f (stepAt p i.toNat)).sum
theorem sumAt_pos (f : Sp → Int) (p : List Sp) : sumAt f p (positive p) = (p.map fun s => if s.neg then 0 else f s).sum := by
  have key : ∀ (q : List Sp) (i : Nat), (∀ k s, q[k]? = some s → stepAt p (i + k) = s) → sumAt f p (posFrom i q) = (q.map fun s => if s.neg then 0 else f s).sum := by
    intro q
    induction q with
    | nil => intro i _; simp [posFrom, sumAt]
    | cons s q ih =>
      intro i h
      have h0 : stepAt p i = s := by simpa using h 0 s rfl
      have h1 := ih (i + 1) (fun k t ht => by rw [show i + 1 + k = i + (k + 1) by omega]; exact h (k + 1) t (by simpa using ht))
      simp only [posFrom, List.map_cons, List.sum_cons]
      split
      · rw [h1]; simp
      · simp only [sumAt, List.map_cons, List.sum_cons, Int.toNat_natCast, h0] at h1 ⊢
        rw [h1]
  exact key p 0 (fun k s h => by simp [stepAt, h])
theorem sumAt_snoc {f : Sp → Int} {p : List Sp} {l : List Int} {k : Nat} {i : Int} (h : l[k]? = some i) : sumAt f p (l.take (k + 1)) = sumAt f p (l.take k) + f (stepAt p i.toNat) := by
  simp [sumAt, List.take_add_one, h]
theorem within_bd (n : Int) : 0 ≤ within n ∧ within n ≤ 1099511627776 := by unfold within; omega
theorem sumAt_bd {f : Sp → Int} (hf : ∀ s, 0 ≤ f s ∧ f s ≤ 1099511627776) (p : List Sp) (l : List Int) : 0 ≤ sumAt f p l ∧ sumAt f p l ≤ 1099511627776 * (l.length : Int) := by
  induction l with
  | nil => simp [sumAt]
  | cons x l ih =>
    have := hf (stepAt p x.toNat)
    simp only [sumAt, List.map_cons, List.sum_cons, List.length_cons] at *
    omega
end Go.Proofs.Ytidddeobachjgaa
