/- The plain law of the names that a step asks: sorted and cut to one of each they are a rising row, put together name by name. -/
import Derived.Test.YtidddeobachjgaaPlC
import Derived.Lib.SlicesCompact
namespace Go.Proofs.Ytidddeobachjgaa

/-- Rising. -/
def Rise (l : List Int) : Prop := l.Pairwise (· < ·)
theorem mem_ins {n x : Int} {l : List Int} : x ∈ ins n l ↔ x = n ∨ x ∈ l := by
  induction l with
  | nil => simp [ins]
  | cons y l ih =>
    simp only [ins]
    split
    · rename_i h; subst h; simp
    · split
      · simp
      · simp only [List.mem_cons, ih]
        constructor <;> rintro (h | h | h) <;> simp [h]
theorem rise_ins {n : Int} {l : List Int} (h : Rise l) : Rise (ins n l) := by
  induction l with
  | nil => simp [ins, Rise]
  | cons y l ih =>
    obtain ⟨h1, h2⟩ := List.pairwise_cons.1 h
    simp only [ins]
    split
    · exact h
    · rename_i hne
      split
      · rename_i hlt
        exact List.pairwise_cons.2 ⟨fun z hz => by rcases List.mem_cons.1 hz with rfl | hz; exact hlt; have := h1 z hz; omega, h⟩
      · rename_i hge
        refine List.pairwise_cons.2 ⟨fun z hz => ?_, ih h2⟩
        rcases mem_ins.1 hz with rfl | hz
        · omega
        · exact h1 z hz
theorem fold_ins (l : List Int) (a : List Int) (h : Rise a) : Rise (l.foldl (fun l n => ins n l) a) ∧ ∀ x, x ∈ l.foldl (fun l n => ins n l) a ↔ x ∈ a ∨ x ∈ l := by
  induction l generalizing a with
  | nil => simp [h]
  | cons y l ih =>
    obtain ⟨h1, h2⟩ := ih (ins y a) (rise_ins h)
    refine ⟨h1, fun x => ?_⟩
    simp only [List.foldl_cons, h2, mem_ins, List.mem_cons]
    constructor
    · rintro ((rfl | h) | h)
      · exact .inr (.inl rfl)
      · exact .inl h
      · exact .inr (.inr h)
    · rintro (h | rfl | h)
      · exact .inl (.inr h)
      · exact .inl (.inl rfl)
      · exact .inr h
theorem asked_rise (cs : List Cm) : Rise (asked cs) := (fold_ins _ [] List.Pairwise.nil).1
theorem mem_asked {cs : List Cm} {x : Int} : x ∈ asked cs ↔ x ∈ allNames cs := by
  have := (fold_ins (allNames cs) [] List.Pairwise.nil).2 x
  simpa [asked] using this
/-- Two rising rows of the same numbers are one. -/
theorem rise_ext {l m : List Int} (hl : Rise l) (hm : Rise m) (h : ∀ x, x ∈ l ↔ x ∈ m) : l = m := by
  induction l generalizing m with
  | nil =>
    cases m with
    | nil => rfl
    | cons y m => have := (h y).2 (by simp); simp at this
  | cons x l ih =>
    cases m with
    | nil => have := (h x).1 (by simp); simp at this
    | cons y m =>
      obtain ⟨h1, h2⟩ := List.pairwise_cons.1 hl
      obtain ⟨h3, h4⟩ := List.pairwise_cons.1 hm
      have hxy : x = y := by
        rcases List.mem_cons.1 ((h x).1 (by simp)) with e | e
        · exact e
        · rcases List.mem_cons.1 ((h y).2 (by simp)) with e' | e'
          · exact e'.symm
          · have := h1 y e'; have := h3 x e; omega
      subst hxy
      rw [ih h2 h4 (fun z => ?_)]
      constructor
      · intro hz
        rcases List.mem_cons.1 ((h z).1 (by simp [hz])) with e | e
        · have := h1 z hz; omega
        · exact e
      · intro hz
        rcases List.mem_cons.1 ((h z).2 (by simp [hz])) with e | e
        · have := h3 z hz; omega
        · exact e
open Go.Lib in
theorem compactUpTo_mem (d : Array Int) (m : Nat) (hm : m ≤ d.size) : ∀ x, x ∈ compactUpTo d m ↔ ∃ j, j < m ∧ d[j]! = x := by
  induction m with
  | zero => intro x; simp [compactUpTo]
  | succ m ih =>
    intro x
    rw [compactUpTo_succ, List.mem_append, ih (by omega)]
    constructor
    · rintro (⟨j, hj, h⟩ | h)
      · exact ⟨j, by omega, h⟩
      · split at h
        · exact ⟨m, by omega, by simpa using (List.mem_singleton.1 h).symm⟩
        · simp at h
    · rintro ⟨j, hj, h⟩
      rcases Nat.lt_or_ge j m with hlt | hge
      · exact .inl ⟨j, hlt, h⟩
      · obtain rfl : j = m := by omega
        by_cases hk : keeps d j = true
        · right; rw [if_pos hk]; simp [h]
        · left
          have hj0 : j ≠ 0 := by rintro rfl; exact hk (by simp [keeps])
          refine ⟨j - 1, by omega, ?_⟩
          have : d[j]! = d[j - 1]! := by
            simp [keeps] at hk
            exact hk.2
          rw [← this, h]
open Go.Lib in
theorem compactUpTo_rise (d : Array Int) (hs : ∀ i j, i ≤ j → j < d.size → d[i]! ≤ d[j]!) (m : Nat) (hm : m ≤ d.size) : Rise (compactUpTo d m) := by
  induction m with
  | zero => simp [compactUpTo, Rise]
  | succ m ih =>
    rw [compactUpTo_succ]
    by_cases hk : keeps d m = true
    · rw [if_pos hk]
      refine List.pairwise_append.2 ⟨ih (by omega), by simp, fun a ha b hb => ?_⟩
      obtain rfl := List.mem_singleton.1 hb
      obtain ⟨j, hj, rfl⟩ := (compactUpTo_mem d m (by omega) a).1 ha
      have h1 := hs j (m - 1) (by omega) (by omega)
      have h2 := hs (m - 1) m (by omega) (by omega)
      have h3 : d[m]! ≠ d[m - 1]! := by
        simp [keeps] at hk
        rcases hk with rfl | hk
        · omega
        · exact hk
      omega
    · rw [if_neg hk, List.append_nil]
      exact ih (by omega)
open Go.Lib in
/-- Sorted, and cut to one of each. -/
theorem compact_sorted (l : List Int) (a : List Int) (ha : Rise a) (h : ∀ x, x ∈ a ↔ x ∈ l) : compact (l.mergeSort fun x y => decide (x ≤ y)) = a := by
  have hp : (l.mergeSort fun x y => decide (x ≤ y)).Pairwise fun x y => (decide (x ≤ y)) = true :=
    List.pairwise_mergeSort (fun a b c h1 h2 => by simp at *; omega) (fun a b => by simp; omega) l
  generalize hz : (l.mergeSort fun x y => decide (x ≤ y)) = zs at *
  have hmem : ∀ x, x ∈ zs ↔ x ∈ l := fun x => by rw [← hz]; exact List.mem_mergeSort
  have hget : ∀ i, i < zs.length → zs.toArray[i]! = zs.getD i 0 := fun i hi => by simp [hi]
  refine rise_ext (compactUpTo_rise _ ?_ _ (by simp)) ha (fun x => ?_)
  · intro i j hij hj
    have hj' : j < zs.length := by simpa using hj
    rw [hget i (by omega), hget j hj']
    rcases Nat.lt_or_ge i j with hlt | hge
    · have := List.pairwise_iff_getElem.1 hp i j (by omega) hj' hlt
      simpa [List.getD, List.getElem?_eq_getElem, hj', show i < zs.length by omega] using this
    · obtain rfl : i = j := by omega
      exact Int.le_refl _
  · rw [compact, compactUpTo_mem _ _ (by simp), h, ← hmem]
    constructor
    · rintro ⟨j, hj, rfl⟩
      rw [hget j hj]
      simp [List.getD, hj]
    · intro hx
      obtain ⟨j, hj, rfl⟩ := List.mem_iff_getElem.1 hx
      exact ⟨j, hj, by rw [hget j hj]; simp [List.getD, hj]⟩
open Go.Lib in
theorem asked_eq (cs : List Cm) : compact ((allNames cs).mergeSort fun x y => decide (x ≤ y)) = asked cs := compact_sorted _ _ (asked_rise cs) (fun _ => mem_asked)
end Go.Proofs.Ytidddeobachjgaa
