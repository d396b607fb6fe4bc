/- Plain laws: what a step asks is just the names of its comparisons' terms. -/
import Derived.Test.YtidddeobachjgaaPlS
namespace Go.Proofs.Ytidddeobachjgaa

/-- Is n a name of the term? In the words of the law. -/
def hasB (t : Tm) (n : Int) : Bool := (!decide (t.k = 0) && decide (t.s = n)) || (decide (t.k = 5 ∨ t.k = 6) && decide (t.r = n))
theorem hasB_iff (t : Tm) (n : Int) : hasB t n = true ↔ n ∈ t.names := by
  unfold hasB Tm.names Tm.two
  by_cases h0 : t.k = 0
  · simp [h0]
  · by_cases h5 : t.k = 5 ∨ t.k = 6
    · simp only [h0, h5, decide_true, decide_false, Bool.not_false, Bool.true_and, Bool.or_eq_true, decide_eq_true_eq, if_true, if_false, List.mem_cons, List.not_mem_nil, or_false]
      constructor
      · rintro (h | h) <;> simp [h]
      · rintro (h | h) <;> simp [h]
    · simp [h0, h5, eq_comm]
/-- Do the terms of these comparisons ask n? -/
def asksB (cs : List Cm) (n : Int) : Bool := cs.any fun c => hasB c.l n || hasB c.r n
theorem asksB_mem (cs : List Cm) (n : Int) : asksB cs n = decide (n ∈ asked cs) := by
  rw [Bool.eq_iff_iff, decide_eq_true_eq, mem_asked]
  unfold asksB allNames
  rw [List.any_eq_true, List.mem_flatMap]
  constructor
  · rintro ⟨c, hc, h⟩
    refine ⟨c, hc, List.mem_append.2 ?_⟩
    simp only [Bool.or_eq_true, hasB_iff] at h
    exact h
  · rintro ⟨c, hc, h⟩
    refine ⟨c, hc, ?_⟩
    simp only [Bool.or_eq_true, hasB_iff]
    exact List.mem_append.1 h
theorem asksB_snoc {cs : List Cm} {k : Nat} {c : Cm} (h : cs[k]? = some c) (n : Int) : asksB (cs.take (k + 1)) n = (asksB (cs.take k) n || (hasB c.l n || hasB c.r n)) := by
  simp [asksB, List.take_add_one, h, List.any_append]
def inB (l : List Int) (n : Int) : Bool := l.any fun x => decide (x = n)
theorem inB_mem (l : List Int) (n : Int) : inB l n = decide (n ∈ l) := by
  rw [Bool.eq_iff_iff, decide_eq_true_eq]
  unfold inB
  rw [List.any_eq_true]
  constructor
  · rintro ⟨x, hx, h⟩
    have := of_decide_eq_true h
    subst this
    exact hx
  · intro h
    exact ⟨n, h, by simp⟩
theorem inB_snoc {l : List Int} {k : Nat} {x : Int} (h : l[k]? = some x) (n : Int) : inB (l.take (k + 1)) n = (inB (l.take k) n || decide (x = n)) := by
  simp [inB, List.take_add_one, h, List.any_append]
theorem name_asked {cs : List Cm} {k : Nat} {c : Cm} (h : cs[k]? = some c) {t : Tm} (ht : t = c.l ∨ t = c.r) {n : Int} (hn : n ∈ t.names) : inB (asked cs) n = true := by
  rw [inB_mem, decide_eq_true_eq, mem_asked]
  refine List.mem_flatMap.2 ⟨c, List.mem_of_getElem? h, List.mem_append.2 ?_⟩
  rcases ht with rfl | rfl
  · exact .inl hn
  · exact .inr hn
end Go.Proofs.Ytidddeobachjgaa
