/- Plain laws: which rule is told; a part of the steps that stands first. -/
import Derived.Test.YtidddeobachjgaaPlT
namespace Go.Proofs.Ytidddeobachjgaa

theorem checkFrom_spec (p : List Sp) (win : Int) : ∀ n r, (checkFrom p win r n = (0, 0, 0) ∧ ∀ k, r ≤ k → k < r + n → broken p win k < 0) ∨
    ∃ k, r ≤ k ∧ k < r + n ∧ checkFrom p win r n = ((k : Int), broken p win k, 110) ∧ 0 ≤ broken p win k ∧ ∀ j, r ≤ j → j < k → broken p win j < 0 := by
  intro n
  induction n with
  | zero => intro r; exact .inl ⟨rfl, fun k h1 h2 => by omega⟩
  | succ n ih =>
    intro r
    by_cases h : broken p win r < 0
    · have e : checkFrom p win r (n + 1) = checkFrom p win (r + 1) n := by simp [checkFrom, h]
      rw [e]
      rcases ih (r + 1) with ⟨h1, h2⟩ | ⟨k, h1, h2, h3, h4, h5⟩
      · refine .inl ⟨h1, fun k hk1 hk2 => ?_⟩
        by_cases e : k = r
        · subst e; exact h
        · exact h2 k (by omega) (by omega)
      · refine .inr ⟨k, by omega, by omega, h3, h4, fun j hj1 hj2 => ?_⟩
        by_cases e : j = r
        · subst e; exact h
        · exact h5 j (by omega) hj2
    · exact .inr ⟨r, Nat.le_refl _, by omega, by simp [checkFrom, h], by omega, fun j h1 h2 => by omega⟩

theorem whole_bd (b : Bool) : whole b = -1 ∧ b = true ∨ whole b = 0 ∧ b = false := by cases b <;> simp [whole]
theorem whole_true {b : Bool} (h : whole b < 0) : b = true := by
  rcases whole_bd b with ⟨-, h'⟩ | ⟨h', -⟩
  · exact h'
  · omega
theorem first_bd (f : Nat → Sp → Bool) (p : List Sp) (i : Nat) : firstFrom f i p = -1 ∨ (i : Int) ≤ firstFrom f i p ∧ firstFrom f i p < i + p.length := by
  induction p generalizing i with
  | nil => exact .inl rfl
  | cons s p ih =>
    simp only [firstFrom]
    split
    · rcases ih (i + 1) with h | ⟨h1, h2⟩
      · exact .inl h
      · right; simp only [List.length_cons]; omega
    · right; simp only [List.length_cons]; omega
theorem first_all {f : Nat → Sp → Bool} {p : List Sp} {i : Nat} (h : firstFrom f i p < 0) : ∀ k s, p[k]? = some s → f (i + k) s = true := by
  induction p generalizing i with
  | nil => intro k s hk; simp at hk
  | cons x p ih =>
    simp only [firstFrom] at h
    split at h
    · rename_i hx
      intro k s hk
      cases k with
      | zero => simp at hk; subst hk; exact hx
      | succ k => have := ih h k s (by simpa using hk); rwa [show i + 1 + k = i + (k + 1) by omega] at this
    · omega
theorem first_keep {f g : Nat → Sp → Bool} {p : List Sp} {i n : Nat} (hfg : ∀ k s, k < n → p[k]? = some s → g (i + k) s = f (i + k) s) (h : firstFrom f i p < 0 ∨ ((i + n : Nat) : Int) ≤ firstFrom f i p) :
    firstFrom g i (p.take n) = -1 := by
  induction p generalizing i n with
  | nil => simp [firstFrom]
  | cons s p ih =>
    cases n with
    | zero => simp [firstFrom]
    | succ n =>
      have h0 := hfg 0 s (by omega) rfl
      simp only [Nat.add_zero] at h0
      simp only [List.take_succ_cons, firstFrom, h0]
      simp only [firstFrom] at h
      split
      · rename_i hs
        simp only [hs, if_true] at h
        exact ih (fun k t hk ht => by have := hfg (k + 1) t (by omega) (by simpa using ht); rwa [show i + (k + 1) = i + 1 + k by omega] at this) (by omega)
      · rename_i hs
        simp only [hs] at h
        simp at h
        omega
theorem first_at {f : Nat → Sp → Bool} {p : List Sp} {i k : Nat} {s : Sp} (hs : p[k]? = some s) (hf : f (i + k) s = false) (hb : ∀ j t, j < k → p[j]? = some t → f (i + j) t = true) : firstFrom f i p = ((i + k : Nat) : Int) := by
  induction p generalizing i k with
  | nil => simp at hs
  | cons x p ih =>
    cases k with
    | zero =>
      simp at hs
      subst hs
      simp only [Nat.add_zero] at hf
      simp [firstFrom, hf]
    | succ k =>
      have h0 := hb 0 x (by omega) rfl
      simp only [Nat.add_zero] at h0
      simp only [firstFrom, h0, if_true]
      rw [ih (k := k) (by simpa using hs) (by rwa [show i + 1 + k = i + (k + 1) by omega]) (fun j t hj ht => by have := hb (j + 1) t (by omega) (by simpa using ht); rwa [show i + 1 + j = i + (j + 1) by omega])]
      congr 1
      omega
theorem first_ok {f : Nat → Sp → Bool} {p : List Sp} {i : Nat} (hb : ∀ j t, p[j]? = some t → f (i + j) t = true) : firstFrom f i p = -1 := by
  induction p generalizing i with
  | nil => rfl
  | cons x p ih =>
    have h0 := hb 0 x rfl
    simp only [Nat.add_zero] at h0
    simp only [firstFrom, h0, if_true]
    exact ih (fun j t ht => by have := hb (j + 1) t (by simpa using ht); rwa [show i + (j + 1) = i + 1 + j by omega] at this)

theorem broken_bd {p : List Sp} {win : Int} (h0 : 0 < p.length) (k : Nat) : -1 ≤ broken p win k ∧ broken p win k < p.length := by
  unfold broken
  have w1 := whole_bd (rule1 p win)
  have w2 := whole_bd (rule2 p)
  have w6 := whole_bd (rule6 p)
  have f3 := first_bd (rule3 p) p 0
  have f4 := first_bd (rule4 p) p 0
  have f5 := first_bd (rule5 p) p 0
  have f7 := first_bd (rule7 p) p 0
  split <;> (try split) <;> (try split) <;> (try split) <;> (try split) <;> (try split) <;> omega

theorem step_take {p : List Sp} {n k : Nat} (h : k < n) : stepAt (p.take n) k = stepAt p k := by
  simp only [stepAt, List.getD_eq_getElem?_getD, List.getElem?_take, if_pos h]
theorem rule4_take {p : List Sp} {n k : Nat} (s : Sp) (h : k < n) : rule4 (p.take n) k s = rule4 p k s := by
  simp only [rule4, step_take (show k - 1 < n by omega)]
theorem askOk_take {p : List Sp} {n k : Nat} (m : Int) (h : k < n) : askOk (p.take n) k m = askOk p k m := by
  simp only [askOk]
  by_cases hm : m < k
  · rw [step_take (show m.toNat < n by omega)]
  · simp [hm]
theorem rule7_take {p : List Sp} {n k : Nat} (s : Sp) (h : k < n) : rule7 (p.take n) k s = rule7 p k s := by
  simp only [rule7]
  congr 2
  funext m
  exact askOk_take m h
theorem right_take {p : List Sp} {win : Int} (h : rightB p win = true) {n : Nat} (h0 : 0 < n) : rightB (p.take n) win = true := by
  simp only [rightB, Bool.and_eq_true, decide_eq_true_eq, List.all_eq_true] at h ⊢
  obtain ⟨⟨⟨h1, h2⟩, h3⟩, h4⟩ := h
  refine ⟨⟨⟨by simp; omega, by simp; omega⟩, h3⟩, fun s hs => h4 s (List.mem_of_mem_take hs)⟩
theorem long_take {p : List Sp} (hm : ∀ s ∈ p, 0 ≤ s.max) (n : Nat) : longF (p.take n) ≤ longF p := by
  induction p generalizing n with
  | nil => simp [longF]
  | cons s p ih =>
    have h0 := hm s (by simp)
    have hp : 0 ≤ longF p := by
      have := ih (fun t ht => hm t (by simp [ht])) 0
      simpa [longF] using this
    cases n with
    | zero => simp only [longF, List.take_zero, List.map_nil, List.sum_nil, List.map_cons, List.sum_cons] at *; split <;> omega
    | succ n =>
      have := ih (fun t ht => hm t (by simp [ht])) n
      simp only [longF, List.take_succ_cons, List.map_cons, List.sum_cons] at *
      omega
theorem broken_take {p : List Sp} {win : Int} (hr : rightB p win = true) {n k : Nat} (h0 : 0 < n) (h : broken p win k < 0 ∨ (k ≠ 1 ∧ k ≠ 2 ∧ k ≠ 6 ∧ (n : Int) ≤ broken p win k)) : broken (p.take n) win k < 0 := by
  have hl := right_parts hr
  have hm : ∀ s ∈ p, 0 ≤ s.max := fun s hs => (hl.2.2 s hs).1
  unfold broken at h ⊢
  by_cases e1 : k = 1
  · simp only [e1, if_true] at h ⊢
    have h1 : rule1 p win = true := whole_true (by rcases h with h | h <;> omega)
    have : rule1 (p.take n) win = true := by
      simp only [rule1, decide_eq_true_eq, List.length_take] at h1 ⊢
      omega
    simp [this, whole]
  simp only [e1, if_false] at h ⊢
  by_cases e2 : k = 2
  · simp only [e2, if_true] at h ⊢
    have h1 : rule2 p = true := whole_true (by rcases h with h | h <;> omega)
    have : rule2 (p.take n) = true := by simpa only [rule2, step_take h0] using h1
    simp [this, whole]
  simp only [e2, if_false] at h ⊢
  by_cases e3 : k = 3
  · simp only [e3, if_true] at h ⊢
    rw [first_keep (f := rule3 p) (g := rule3 (p.take n)) (fun _ _ _ _ => rfl) (by omega)]; omega
  simp only [e3, if_false] at h ⊢
  by_cases e4 : k = 4
  · simp only [e4, if_true] at h ⊢
    rw [first_keep (f := rule4 p) (fun k s hk _ => by rw [Nat.zero_add]; exact rule4_take s hk) (by omega)]; omega
  simp only [e4, if_false] at h ⊢
  by_cases e5 : k = 5
  · simp only [e5, if_true] at h ⊢
    rw [first_keep (f := rule5 p) (g := rule5 (p.take n)) (fun _ _ _ _ => rfl) (by omega)]; omega
  simp only [e5, if_false] at h ⊢
  by_cases e6 : k = 6
  · simp only [e6, if_true] at h ⊢
    have h1 : rule6 p = true := whole_true (by rcases h with h | h <;> omega)
    have : rule6 (p.take n) = true := by
      have := long_take hm n
      simp only [rule6, decide_eq_true_eq] at h1 ⊢
      omega
    simp [this, whole]
  simp only [e6, if_false] at h ⊢
  rw [first_keep (f := rule7 p) (fun k s hk _ => by rw [Nat.zero_add]; exact rule7_take s hk) (by omega)]; omega

/-- THE LAW of the first rule, plain. -/
theorem check_first {p : List Sp} {win : Int} (hr : rightB p win = true) {r a e : Int} (h : checkF p win = (r, a, e)) :
    ((e = 0) ↔ (r = 0)) ∧ 0 ≤ r ∧ r ≤ 7 ∧ 0 ≤ a ∧ a < p.length ∧ ((r = 3 ∨ r = 4 ∨ r = 5 ∨ r = 7) → 0 < a → (checkF (p.take a.toNat) win).1 = 0 ∨ r < (checkF (p.take a.toNat) win).1) := by
  have h0 := (right_parts hr).1
  simp only [checkF, hr, if_true] at h
  rcases checkFrom_spec p win 7 1 with ⟨h1, h2⟩ | ⟨k, h1, h2, h3, h4, h5⟩
  · rw [h1] at h
    injection h with e1 e2
    injection e2 with e2 e3
    subst e1 e2 e3
    exact ⟨by simp, by omega, by omega, by omega, by omega, by omega⟩
  · rw [h3] at h
    injection h with e1 e2
    injection e2 with e2 e3
    have hb := (broken_bd (win := win) h0 k).2
    rw [← e1, ← e2, ← e3]
    refine ⟨by omega, by omega, by omega, h4, hb, fun hk ha => ?_⟩
    have hn : 0 < (broken p win k).toNat := by omega
    simp only [checkF, right_take hr hn, if_true]
    rcases checkFrom_spec (p.take (broken p win k).toNat) win 7 1 with ⟨g1, g2⟩ | ⟨j, g1, g2, g3, g4, g5⟩
    · rw [g1]; exact .inl rfl
    · right
      rw [g3]
      show (k : Int) < j
      rcases Nat.lt_or_ge k j with hlt | hge
      · omega
      · exfalso
        have : broken (p.take (broken p win k).toNat) win j < 0 := by
          refine broken_take hr hn ?_
          by_cases e : j = k
          · subst e; right; omega
          · left; exact h5 j g1 (by omega)
        omega
theorem check_wrong {p : List Sp} {win : Int} (hr : rightB p win = false) : checkF p win = (0, 0, 2) := by simp [checkF, hr]
end Go.Proofs.Ytidddeobachjgaa
