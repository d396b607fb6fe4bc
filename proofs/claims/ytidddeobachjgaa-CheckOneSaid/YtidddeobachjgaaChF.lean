/- What each of the seven functions answers. -/
import Derived.Test.YtidddeobachjgaaChE
namespace Go.Proofs.Ytidddeobachjgaa
open Go.RowKit Go.Shelf

theorem right_asked {p : List Sp} {win : Int} (h : rightB p win = true) {k : Nat} {s : Sp} (hs : p[k]? = some s) : ∀ n ∈ asked s.cmps, 0 ≤ n := by
  simp only [rightB, Bool.and_eq_true, List.all_eq_true, Sp.ok] at h
  have hc := (h.2 s (List.mem_of_getElem? hs)).2
  intro n hn
  rw [mem_asked] at hn
  obtain ⟨c, hcm, hn⟩ := List.mem_flatMap.1 hn
  have hok := hc c hcm
  simp only [Cm.ok, Bool.and_eq_true, Tm.ok, decide_eq_true_eq] at hok
  obtain ⟨⟨-, h1⟩, h2⟩ := hok
  have key : ∀ t : Tm, 0 ≤ t.s → 0 ≤ t.r → n ∈ t.names → 0 ≤ n := by
    intro t h1 h2 h
    unfold Tm.names at h
    split at h
    · simp at h
    · split at h
      · simp at h
        rcases h with rfl | rfl <;> assumption
      · simp at h
        subst h
        assumption
  rcases List.mem_append.1 hn with h | h
  · exact key c.l h1.2.2.2.1 h1.2.2.2.2.2.1 h
  · exact key c.r h2.2.2.2.1 h2.2.2.2.2.2.1 h

section
variable {w : World} {g B L b : Nat} {p : List Sp} {win : Int}
theorem rule_at1 (h : RulesAt w g B L b p win) : Calls Try.prog 69 #[ptr B] w fun e w' => e = .returned (.int .i64 (broken p win 1)) ∧ Below w.heap.size w w' := by
  obtain ⟨sv, hb, hrd⟩ := h.pat.box
  obtain ⟨A, cap, -, -, rfl, -⟩ := hrd
  refine (rule1_any p.length win A cap B w (hb.cell 0) (hb.cell 1)).mono ?_
  rintro e w' ⟨rfl, rfl⟩
  exact ⟨rfl, Below.refl _ _⟩
theorem rule_at2 (h : RulesAt w g B L b p win) (hr : rightB p win = true) : Calls Try.prog 71 #[ptr B] w fun e w' => e = .returned (.int .i64 (broken p win 2)) ∧ Below w.heap.size w w' := by
  refine (rule2_any p win B w h.pat (right_parts hr).1).mono ?_
  rintro e w' ⟨rfl, rfl⟩
  exact ⟨rfl, Below.refl _ _⟩
theorem rule_at3 (h : RulesAt w g B L b p win) : Calls Try.prog 67 #[ptr B, ptr b] w fun e w' => e = .returned (.int .i64 (broken p win 3)) ∧ Below w.heap.size w w' := by
  obtain ⟨sv, hb, hrd⟩ := h.pat.box
  exact first3_any B b p (rule3 p) win sv w hb h.b3 hrd fun k s cv w1 _ _ _ => rule3_any _ _ _ _
theorem rule_at4 (h : RulesAt w g B L b p win) : Calls Try.prog 67 #[ptr B, ptr (b + 1)] w fun e w' => e = .returned (.int .i64 (broken p win 4)) ∧ Below w.heap.size w w' := by
  obtain ⟨sv, hb, hrd⟩ := h.pat.box
  exact first4_any B (b + 1) B p (rule4 p) win sv w hb h.b4 hrd fun k s cv w1 h1 hs _ => rule4_any p win k s cv B w1 (h.pat.below h1 (Nat.le_refl _)) hs
theorem rule_at5 (h : RulesAt w g B L b p win) : Calls Try.prog 67 #[ptr B, ptr (b + 1 + 1)] w fun e w' => e = .returned (.int .i64 (broken p win 5)) ∧ Below w.heap.size w w' := by
  obtain ⟨sv, hb, hrd⟩ := h.pat.box
  exact first5_any B (b + 1 + 1) p (rule5 p) win sv w hb h.b5 hrd fun k s cv w1 _ _ _ => rule5_any _ _ _ _
theorem rule_at6 (h : RulesAt w g B L b p win) : Calls Try.prog 75 #[ptr L] w fun e w' => e = .returned (.int .i64 (broken p win 6)) ∧ Below w.heap.size w w' := by
  refine (rule6_any (longF p) L w h.long.one).mono ?_
  rintro e w' ⟨rfl, rfl⟩
  exact ⟨rfl, Below.refl _ _⟩
theorem rule_at7 (h : RulesAt w g B L b p win) (hr : rightB p win = true) : Calls Try.prog 67 #[ptr B, ptr (b + 1 + 1 + 1)] w fun e w' => e = .returned (.int .i64 (broken p win 7)) ∧ Below w.heap.size w w' := by
  obtain ⟨sv, hb, hrd⟩ := h.pat.box
  exact first7_any B (b + 1 + 1 + 1) B p (rule7 p) win sv w hb h.b7 hrd fun k s cv w1 h1 hs hc => rule7_any p win k s cv B w1 (h.pat.below h1 (Nat.le_refl _)) hs hc (right_asked hr hs)
end
end Go.Proofs.Ytidddeobachjgaa
