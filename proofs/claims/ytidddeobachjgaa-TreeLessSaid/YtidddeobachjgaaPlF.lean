/- Plain laws: the length that the sixth rule asks for. -/
import Derived.Test.YtidddeobachjgaaPlE
namespace Go.Proofs.Ytidddeobachjgaa

theorem long_snoc {p : List Sp} {k : Nat} {s : Sp} (h : p[k]? = some s) : longF (p.take (k + 1)) = longF (p.take k) + (if s.neg then 0 else s.max) := by
  simp only [longF, List.take_add_one, h, Option.toList_some, List.map_append, List.map_cons, List.map_nil, List.sum_append_int, List.sum_cons, List.sum_nil]
  omega
theorem long_bd {p : List Sp} (hm : ∀ s ∈ p, 0 ≤ s.max ∧ s.max ≤ 1099511627776) : 0 ≤ longF p ∧ longF p ≤ 1099511627776 * p.length := by
  induction p with
  | nil => simp [longF]
  | cons s p ih =>
    obtain ⟨h1, h2⟩ := hm s (by simp)
    obtain ⟨h3, h4⟩ := ih (fun t ht => hm t (by simp [ht]))
    simp only [longF, List.map_cons, List.sum_cons, List.length_cons] at *
    split <;> omega
theorem long_bd_take {p : List Sp} (hm : ∀ s ∈ p, 0 ≤ s.max ∧ s.max ≤ 1099511627776) (hl : p.length ≤ 26) (k : Nat) : 0 ≤ longF (p.take k) ∧ longF (p.take k) ≤ 1099511627776 * 26 := by
  obtain ⟨h1, h2⟩ := long_bd (p := p.take k) (fun s hs => hm s (List.mem_of_mem_take hs))
  have h3 : (p.take k).length ≤ 26 := Nat.le_trans (List.length_take_le' _ _) hl
  omega
theorem right_parts {p : List Sp} {win : Int} (h : rightB p win = true) : 0 < p.length ∧ p.length ≤ 26 ∧ (∀ s ∈ p, 0 ≤ s.max ∧ s.max ≤ 1099511627776) := by
  simp only [rightB, Bool.and_eq_true, decide_eq_true_eq, List.all_eq_true, Sp.ok, numB] at h
  exact ⟨h.1.1.1, h.1.1.2, fun s hs => (h.2 s hs).1.2⟩
theorem firstFrom_mem {f g : Nat → Sp → Bool} {p : List Sp} {i : Nat} (h : ∀ k s, p[k]? = some s → f (i + k) s = g (i + k) s) : firstFrom f i p = firstFrom g i p := by
  induction p generalizing i with
  | nil => rfl
  | cons s p ih =>
    have h0 := h 0 s rfl
    simp only [Nat.add_zero] at h0
    simp only [firstFrom, h0]
    rw [ih fun k t hk => by have := h (k + 1) t (by simpa using hk); rwa [show i + (k + 1) = i + 1 + k by omega] at this]
end Go.Proofs.Ytidddeobachjgaa
