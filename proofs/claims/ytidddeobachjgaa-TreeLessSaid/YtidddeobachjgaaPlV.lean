/- Plain laws: what a pattern that may be has. -/
import Derived.Test.YtidddeobachjgaaPlU
namespace Go.Proofs.Ytidddeobachjgaa

structure StepMay (p : List Sp) (k : Nat) (s : Sp) : Prop where
  k0 : 0 ≤ s.kind
  k6 : s.kind < 6
  m1 : 1 ≤ s.min
  m2 : s.min ≤ s.max
  m3 : s.max ≤ 3
  neg : s.neg = true → s.max = 1 ∧ s.strict = false
  strict : s.strict = true → s.neg = false ∧ (stepAt p (k - 1)).neg = false
  cl : s.cmps.length ≤ 4
  ask : ∀ c ∈ s.cmps, ∀ n ∈ c.l.names ++ c.r.names, 0 ≤ n ∧ n ≤ k ∧ (n < k → (stepAt p n.toNat).neg = false ∧ (stepAt p n.toNat).max = 1)

theorem may_rules {p : List Sp} {win : Int} (h : mayB p win = true) : rightB p win = true ∧ ∀ k, 1 ≤ k → k < 8 → broken p win k < 0 := by
  simp only [mayB, decide_eq_true_eq] at h
  cases hr : rightB p win with
  | false => rw [check_wrong hr] at h; simp at h
  | true =>
    refine ⟨rfl, ?_⟩
    simp only [checkF, hr, if_true] at h
    rcases checkFrom_spec p win 7 1 with ⟨-, h2⟩ | ⟨k, -, -, h3, -, -⟩
    · exact h2
    · rw [h3] at h; simp at h

theorem right_term {t : Tm} (h : t.ok = true) {n : Int} (hn : n ∈ t.names) : 0 ≤ n ∧ n < 26 := by
  simp only [Tm.ok, decide_eq_true_eq] at h
  unfold Tm.names at hn
  split at hn
  · simp at hn
  · split at hn
    · simp at hn
      rcases hn with rfl | rfl <;> omega
    · simp at hn
      subst hn
      omega

theorem may_step {p : List Sp} {win : Int} (h : mayB p win = true) {k : Nat} {s : Sp} (hs : p[k]? = some s) : StepMay p k s := by
  obtain ⟨hr, hb⟩ := may_rules h
  have r3 : rule3 p k s = true := by
    have := hb 3 (by omega) (by omega)
    simp only [broken] at this
    have := first_all (f := rule3 p) (i := 0) (by simpa using this) k s hs
    simpa using this
  have r4 : rule4 p k s = true := by
    have := hb 4 (by omega) (by omega)
    simp only [broken] at this
    have := first_all (f := rule4 p) (i := 0) (by simpa using this) k s hs
    simpa using this
  have r5 : rule5 p k s = true := by
    have := hb 5 (by omega) (by omega)
    simp only [broken] at this
    have := first_all (f := rule5 p) (i := 0) (by simpa using this) k s hs
    simpa using this
  have r7 : rule7 p k s = true := by
    have := hb 7 (by omega) (by omega)
    simp only [broken] at this
    have := first_all (f := rule7 p) (i := 0) (by simpa using this) k s hs
    simpa using this
  simp only [rightB, Bool.and_eq_true, List.all_eq_true, Sp.ok, numB, decide_eq_true_eq] at hr
  have hk := hr.2 s (List.mem_of_getElem? hs)
  simp only [rule3, decide_eq_true_eq] at r3
  simp only [rule4, Bool.and_eq_true, Bool.or_eq_true, Bool.not_eq_true', decide_eq_true_eq] at r4
  simp only [rule5, Bool.or_eq_true, decide_eq_true_eq] at r5
  simp only [rule7, Bool.and_eq_true, List.all_eq_true, decide_eq_true_eq, askOk, Bool.or_eq_true, Bool.not_eq_true'] at r7
  obtain ⟨r41, r42⟩ := r4
  obtain ⟨r71, r72⟩ := r7
  have key : s.min ≥ 1 ∧ s.min ≤ s.max ∧ s.max ≤ 3 := by
    rcases r5 with h5 | h5
    · rcases r42 with h4 | h4
      · rw [h4] at h5; cases h5
      · omega
    · omega
  refine ⟨hk.1.1.1.1, r3, key.1, key.2.1, key.2.2, fun hn => ?_, fun ht => ?_, r71, fun c hc n hn => ?_⟩
  · rcases r42 with h4 | h4
    · rw [h4] at hn; cases hn
    · refine ⟨h4.2, ?_⟩
      rcases r41 with h1 | h1
      · rw [h1.1] at hn; cases hn
      · exact h1
  · rcases r41 with ⟨h1, h2⟩ | h1
    · refine ⟨h1, ?_⟩
      rcases h2 with rfl | h2
      · simp only [Nat.zero_sub]
        simp [stepAt, hs, h1]
      · exact h2
    · rw [h1] at ht; cases ht
  · have hok := hk.2 c hc
    simp only [Cm.ok, Bool.and_eq_true] at hok
    have h0 : 0 ≤ n := by
      rcases List.mem_append.1 hn with hm | hm
      · exact (right_term hok.1.2 hm).1
      · exact (right_term hok.2 hm).1
    have := r72 n (mem_asked.2 (List.mem_flatMap.2 ⟨c, hc, hn⟩))
    rcases this with rfl | ⟨⟨h1, h2⟩, h3⟩
    · exact ⟨h0, Int.le_refl _, fun h => absurd h (Int.lt_irrefl _)⟩
    · exact ⟨h0, by omega, fun _ => ⟨h2, h3⟩⟩

theorem may_whole {p : List Sp} {win : Int} (h : mayB p win = true) : 0 < p.length ∧ p.length ≤ 6 ∧ 0 ≤ win ∧ win ≤ 1073741824 ∧ (∀ s, p[0]? = some s → s.neg = false ∧ s.strict = false) ∧ longF p ≤ 4 := by
  obtain ⟨hr, hb⟩ := may_rules h
  have r1 : rule1 p win = true := whole_true (by have := hb 1 (by omega) (by omega); simpa [broken] using this)
  have r2 : rule2 p = true := whole_true (by have := hb 2 (by omega) (by omega); simpa [broken] using this)
  have r6 : rule6 p = true := whole_true (by have := hb 6 (by omega) (by omega); simpa [broken] using this)
  simp only [rightB, Bool.and_eq_true, decide_eq_true_eq, numB] at hr
  simp only [rule1, decide_eq_true_eq] at r1
  simp only [rule2, Bool.and_eq_true, Bool.not_eq_true'] at r2
  simp only [rule6, decide_eq_true_eq] at r6
  refine ⟨hr.1.1.1, r1.1, hr.1.2.1, r1.2, fun s hs => ?_, r6⟩
  simpa [stepAt, hs] using r2

theorem long_pos {p : List Sp} (hp : ∀ s ∈ p, 1 ≤ s.max) : (∀ k, 0 ≤ longF (p.take k)) ∧ ∀ s, p[0]? = some s → s.neg = false → 1 ≤ longF p := by
  have key : ∀ q : List Sp, (∀ s ∈ q, 1 ≤ s.max) → 0 ≤ longF q := by
    intro q
    induction q with
    | nil => intro _; simp [longF]
    | cons s q ih =>
      intro hq
      have h1 := ih fun t ht => hq t (by simp [ht])
      have h2 := hq s (by simp)
      simp only [longF, List.map_cons, List.sum_cons] at h1 ⊢
      split <;> omega
  refine ⟨fun k => key _ fun s hs => hp s (List.mem_of_mem_take hs), fun s hs hn => ?_⟩
  cases p with
  | nil => simp at hs
  | cons t p =>
    simp at hs
    subst hs
    have h1 := key p fun s hs => hp s (by simp [hs])
    have h2 := hp t (by simp)
    simp only [longF, List.map_cons, List.sum_cons] at h1 ⊢
    rw [hn]
    simp
    omega
theorem long_mono {p : List Sp} (hp : ∀ s ∈ p, 1 ≤ s.max) (k : Nat) : longF (p.take k) ≤ longF p := long_take (fun s hs => by have := hp s hs; omega) k
end Go.Proofs.Ytidddeobachjgaa
