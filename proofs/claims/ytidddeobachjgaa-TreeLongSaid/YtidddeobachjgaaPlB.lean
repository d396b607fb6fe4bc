/- Plain laws about patterns: sizes, firsts, what is too great. -/
import Derived.Test.YtidddeobachjgaaPlA
namespace Go.Proofs.Ytidddeobachjgaa

theorem size_snoc (p : List Sp) (k : Nat) (s : Sp) (h : p[k]? = some s) : sizeF (p.take (k + 1)) = sizeF (p.take k) + (1 + 3 * (s.cmps.length : Int)) := by
  simp [sizeF, List.take_add_one, h]
theorem size_le (p : List Sp) (h : ∀ s ∈ p, s.cmps.length ≤ 21) : 0 ≤ sizeF p ∧ sizeF p ≤ 64 * (p.length : Int) := by
  induction p with
  | nil => simp [sizeF]
  | cons s p ih =>
    have h1 := ih (fun x hx => h x (by simp [hx]))
    have h2 := h s (by simp)
    simp only [sizeF, List.map_cons, List.sum_cons, List.length_cons] at *
    omega
theorem size_take (p : List Sp) (h : ∀ s ∈ p, s.cmps.length ≤ 21) (k : Nat) : 0 ≤ sizeF (p.take k) ∧ sizeF (p.take k) ≤ 64 * (k : Int) := by
  have h1 := size_le (p.take k) (fun s hs => h s (List.mem_of_mem_take hs))
  have h2 : (p.take k).length ≤ k := List.length_take_le _ _
  omega

/-- The place of the first that is so; -1: none. -/
def idxB {α : Type} (f : α → Bool) (l : List α) : Int := if l.findIdx f < l.length then (l.findIdx f : Int) else -1
theorem idx_at {α : Type} {f : α → Bool} {l : List α} {k : Nat} {x : α} (hx : l[k]? = some x) (hf : f x = true) (hno : (l.take k).any f = false) : idxB f l = k := by
  obtain ⟨hk, rfl⟩ := List.getElem?_eq_some_iff.1 hx
  have : l.findIdx f = k := by
    rw [List.findIdx_eq hk]
    refine ⟨hf, fun j hj => ?_⟩
    rw [List.any_eq_false] at hno
    have := hno (l[j]'(by omega)) (by rw [List.mem_take_iff_getElem]; exact ⟨j, by omega, rfl⟩)
    simpa using this
  rw [idxB, this, if_pos hk]
theorem idx_none {α : Type} {f : α → Bool} {l : List α} (hno : l.any f = false) : idxB f l = -1 := by
  rw [idxB, if_neg]
  intro h
  have := List.findIdx_lt_length.1 h
  obtain ⟨x, hx, hf⟩ := this
  rw [List.any_eq_false] at hno
  exact hno x hx hf
theorem idx_any {α : Type} (f : α → Bool) (l : List α) : decide (0 ≤ idxB f l) = l.any f := by
  cases h : l.any f with
  | false => rw [idx_none h]; rfl
  | true =>
    rw [List.any_eq_true] at h
    rw [idxB, if_pos (List.findIdx_lt_length.2 h)]
    simp
theorem any_snoc {α : Type} {f : α → Bool} {l : List α} {k : Nat} {x : α} (hx : l[k]? = some x) : (l.take (k + 1)).any f = ((l.take k).any f || f x) := by
  simp [List.take_add_one, hx, List.any_append]
theorem all_snoc {α : Type} {f : α → Bool} {l : List α} {k : Nat} {x : α} (hx : l[k]? = some x) : (l.take (k + 1)).all f = ((l.take k).all f && f x) := by
  simp [List.take_add_one, hx, List.all_append]
theorem all_take_false {α : Type} {f : α → Bool} {l : List α} {k : Nat} {x : α} (hx : l[k]? = some x) (h : f x = false) : l.all f = false := by
  rw [List.all_eq_false]
  exact ⟨x, List.mem_of_getElem? hx, by simp [h]⟩
theorem mem_at {α : Type} {l : List α} {k : Nat} {x : α} (hx : l[k]? = some x) : x ∈ l := List.mem_of_getElem? hx
theorem any_not {α : Type} (f : α → Bool) (l : List α) : (l.any fun x => !f x) = !l.all f := by
  induction l with
  | nil => rfl
  | cons x l ih => simp only [List.any_cons, List.all_cons, ih, Bool.not_and]

def bigB (s : Sp) : Bool := decide (20 < s.cmps.length)
theorem great_eq (p : List Sp) : greatB p = (decide (40 < p.length) || (p.take 41).any bigB) := rfl
theorem great_yes {p : List Sp} {k : Nat} {s : Sp} (hk : p[k]? = some s) (h41 : k < 41) (h : 20 < s.cmps.length) : greatB p = true := by
  rw [great_eq]
  have : (p.take 41).any bigB = true := by
    rw [List.any_eq_true]
    exact ⟨s, List.mem_of_getElem? (by rw [List.getElem?_take, if_pos h41]; exact hk), by simpa [bigB] using h⟩
  simp [this]
theorem great_end {p : List Sp} {k : Nat} (h : (p.take k).any bigB = false) (hk : (k : Int) = p.length ∧ k ≤ 41 ∨ k = 41) : greatB p = decide (40 < (p.length : Int)) := by
  rw [great_eq]
  have h1 : (p.take 41).any bigB = false := by
    rcases hk with ⟨hk, h41⟩ | rfl
    · have : k = p.length := by omega
      subst this
      rw [List.take_of_length_le (by omega)]
      rwa [List.take_of_length_le (Nat.le_refl _)] at h
    · exact h
  rw [h1, Bool.or_false]
  exact decide_eq_decide.2 (by omega)
theorem great_no {p : List Sp} (h : greatB p = false) : p.length ≤ 40 ∧ ∀ s ∈ p, s.cmps.length ≤ 20 := by
  rw [great_eq, Bool.or_eq_false_iff] at h
  obtain ⟨h1, h2⟩ := h
  have h3 : p.length ≤ 40 := by simpa using h1
  refine ⟨h3, fun s hs => ?_⟩
  rw [List.take_of_length_le (by omega), List.any_eq_false] at h2
  have := h2 s hs
  simpa [bigB] using this
end Go.Proofs.Ytidddeobachjgaa
