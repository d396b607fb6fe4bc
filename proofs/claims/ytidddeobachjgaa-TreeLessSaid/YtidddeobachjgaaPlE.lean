/- Plain laws: the first step that is not so; the places of all that are not. -/
import Derived.Test.YtidddeobachjgaaPlS
namespace Go.Proofs.Ytidddeobachjgaa

/-- The places (from i on) at which it is not so. -/
def badFrom (f : Nat → Sp → Bool) (i : Nat) : List Sp → List Int
  | [] => []
  | s :: l => if f i s then badFrom f (i + 1) l else (i : Int) :: badFrom f (i + 1) l
theorem badFrom_append (f : Nat → Sp → Bool) (p q : List Sp) (i : Nat) : badFrom f i (p ++ q) = badFrom f i p ++ badFrom f (i + p.length) q := by
  induction p generalizing i with
  | nil => simp [badFrom]
  | cons s p ih =>
    simp only [List.cons_append, badFrom, List.length_cons]
    rw [ih, show i + (p.length + 1) = i + 1 + p.length by omega]
    split <;> simp
theorem bad_snoc {f : Nat → Sp → Bool} {p : List Sp} {k : Nat} {s : Sp} (h : p[k]? = some s) : badFrom f 0 (p.take (k + 1)) = badFrom f 0 (p.take k) ++ (if f k s then [] else [(k : Int)]) := by
  have hk := (List.getElem?_eq_some_iff.1 h).1
  have hl : (p.take k).length = k := by simp; omega
  simp only [List.take_add_one, h, Option.toList_some]
  rw [badFrom_append, hl]
  simp [badFrom]
theorem bad_prefix (f : Nat → Sp → Bool) (p : List Sp) (k : Nat) : badFrom f 0 (p.take k) <+: badFrom f 0 p := by
  conv => rhs; rw [← List.take_append_drop k p, badFrom_append]
  exact ⟨_, rfl⟩
theorem first_nil {f : Nat → Sp → Bool} {p : List Sp} {i : Nat} (h : badFrom f i p = []) : firstFrom f i p = -1 := by
  induction p generalizing i with
  | nil => rfl
  | cons s p ih =>
    simp only [badFrom] at h
    split at h
    · rename_i hf
      simp only [firstFrom, hf, if_true]
      exact ih h
    · cases h
theorem first_cons {f : Nat → Sp → Bool} {p : List Sp} {i : Nat} {x : Int} {l : List Int} (h : badFrom f i p = x :: l) : firstFrom f i p = x := by
  induction p generalizing i with
  | nil => cases h
  | cons s p ih =>
    simp only [badFrom] at h
    split at h
    · rename_i hf
      simp only [firstFrom, hf, if_true]
      exact ih h
    · rename_i hf
      simp only [firstFrom, hf, Bool.false_eq_true, if_false]
      exact (List.cons.inj h).1
theorem bad_len (f : Nat → Sp → Bool) (p : List Sp) (i : Nat) : (badFrom f i p).length ≤ p.length := by
  induction p generalizing i with
  | nil => simp [badFrom]
  | cons s p ih =>
    have := ih (i + 1)
    simp only [badFrom]
    split <;> simp <;> omega
end Go.Proofs.Ytidddeobachjgaa
