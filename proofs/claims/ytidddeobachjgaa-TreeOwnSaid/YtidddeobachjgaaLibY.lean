/- Patterns of the call's own: a comparison more of one step; where a row of steps lies. -/
import Derived.Test.YtidddeobachjgaaTrQ
namespace Go.Proofs.Ytidddeobachjgaa
open Go.RowKit

theorem OwP.cmps_set {w w1 : World} {base g n cap i : Nat} {ps : List (Sp × Value)} {s s' : Sp} {u u' : Value} (h : OwP w base (.slice (some ⟨g, 0, none⟩) n cap) ps) (hx : ps[i]? = some (s, u)) (hown : OwC w1 base u' s'.cmps)
    (hs : s'.neg = s.neg ∧ s'.kind = s.kind ∧ s'.min = s.min ∧ s'.max = s.max ∧ s'.strict = s.strict)
    (hg : w.grownBy w1 u.ownBlock) (hat : u'.ownBlock = u.ownBlock ∨ u'.ownBlock = some w.heap.size) :
    OwP (w1.setCell ⟨g, i * 6 + 5, none⟩ u') base (.slice (some ⟨g, 0, none⟩) n cap) (ps.set i (s', u')) := by
  have hn : n = ps.length := by
    obtain ⟨A, c, e⟩ := h.form
    injection e
  subst hn
  have hi := (List.getElem?_eq_some_iff.1 hx).1
  have hxu : OwC w base u s.cmps := h.cmps (s, u) (List.mem_of_getElem? hx)
  have hgu : some g ≠ u.ownBlock := by
    intro e
    have := own_ne h.row hxu.1 (by decide)
    rcases this with e1 | e1
    · simp [Value.ownBlock] at e1
    · exact e1 (by rw [← e]; rfl)
  have hrow1 : OwR w1 base (.slice (some ⟨g, 0, none⟩) ps.length cap) ps := World.ownsRow.kept h.row hg (.inr (by simpa [Value.ownBlock] using hgu))
  have hst := World.ownsRow.stored hrow1 (i * 6 + 5) u'
  have hrow2 : OwR (w1.setCell ⟨g, i * 6 + 5, none⟩ u') base (.slice (some ⟨g, 0, none⟩) ps.length cap) (ps.set i (s', u')) := by
    have := hst.1
    rw [flat_set sp_len hx (by omega) (y := (s', u')) (by simp [spc, hs])] at this
    simpa [OwR] using this
  -- the other steps' comparisons
  have hother : ∀ (j : Nat) (y : Sp × Value), j ≠ i → ps[j]? = some y → y.2.ownBlock = none ∨ y.2.ownBlock ≠ u.ownBlock := by
    intro j y hji hy
    have hj := (List.getElem?_eq_some_iff.1 hy).1
    rcases Nat.lt_or_gt_of_ne hji with hlt | hgt
    · have := List.pairwise_iff_getElem.1 h.apart j i hj hi hlt
      rw [(List.getElem?_eq_some_iff.1 hy).2, (List.getElem?_eq_some_iff.1 hx).2] at this
      exact this
    · have := List.pairwise_iff_getElem.1 h.apart i j hi hj hgt
      rw [(List.getElem?_eq_some_iff.1 hy).2, (List.getElem?_eq_some_iff.1 hx).2] at this
      cases hyb : y.2.ownBlock with
      | none => exact .inl rfl
      | some k =>
        right
        intro e
        rcases this with e1 | e1
        · have e2 : u.ownBlock = none := e1
          rw [e2] at e; cases e
        · apply e1
          show u.ownBlock = y.2.ownBlock
          rw [hyb, e]
  have hlt : ∀ (j : Nat) (y : Sp × Value), ps[j]? = some y → ∀ k, y.2.ownBlock = some k → k < w.heap.size := fun j y hy k hk => (h.cmplt (List.mem_of_getElem? hy) k hk).2
  have apart' : ∀ (j : Nat) (y : Sp × Value), j ≠ i → ps[j]? = some y → y.2.ownBlock = none ∨ y.2.ownBlock ≠ u'.ownBlock := by
    intro j y hji hy
    rcases hat with e | e
    · rw [e]; exact hother j y hji hy
    · cases hyb : y.2.ownBlock with
      | none => exact .inl rfl
      | some k =>
        right
        rw [e]
        intro e2
        have := hlt j y hy k hyb
        have := Option.some.inj e2
        omega
  have hset : ∀ (v : Value) (cs : List Cm), OwC w1 base v cs → OwC (w1.setCell ⟨g, i * 6 + 5, none⟩ u') base v cs := fun v cs hv => hv.set_ (p := ⟨g, i * 6 + 5, none⟩) (by
    intro e
    have := own_ne hrow1 hv.1 (by decide)
    rcases this with e1 | e1
    · simp [Value.ownBlock] at e1
    · exact e1 (by rw [← e]; rfl)) u'
  have hget : ∀ (j : Nat) (y : Sp × Value), (ps.set i (s', u'))[j]? = some y → (j = i ∧ y = (s', u')) ∨ (j ≠ i ∧ ps[j]? = some y) := by
    intro j y hy
    by_cases e : j = i
    · subst e
      rw [List.getElem?_set_self hi] at hy
      exact .inl ⟨rfl, (Option.some.inj hy).symm⟩
    · rw [List.getElem?_set_ne (Ne.symm e)] at hy
      exact .inr ⟨e, hy⟩
  refine ⟨hrow2, fun y hy => ?_, ?_⟩
  · obtain ⟨j, hj, rfl⟩ := List.mem_iff_getElem.1 hy
    rcases hget j _ (List.getElem?_eq_getElem hj) with ⟨-, e⟩ | ⟨hji, e⟩
    · rw [e]; exact hset _ _ hown
    · exact hset _ _ ((h.cmps _ (List.mem_of_getElem? e)).kept hg (hother j _ hji e))
  · refine List.pairwise_iff_getElem.2 fun j k hj hk hjk => ?_
    rcases hget j _ (List.getElem?_eq_getElem hj) with ⟨ej, e1⟩ | ⟨ej, e1⟩ <;> rcases hget k _ (List.getElem?_eq_getElem hk) with ⟨ek, e2⟩ | ⟨ek, e2⟩
    · omega
    · rw [e1]
      cases hub : u'.ownBlock with
      | none => exact .inl rfl
      | some b =>
        right
        intro e
        rcases apart' k _ ek e2 with e3 | e3
        · rw [e3] at e; cases e
        · exact e3 (by rw [hub]; exact e.symm)
    · rw [e2]
      exact apart' j _ ej e1
    · have hj' := (List.getElem?_eq_some_iff.1 e1).1
      have hk' := (List.getElem?_eq_some_iff.1 e2).1
      have := List.pairwise_iff_getElem.1 h.apart j k hj' hk' hjk
      rw [(List.getElem?_eq_some_iff.1 e1).2, (List.getElem?_eq_some_iff.1 e2).2] at this
      exact this
theorem map_set_fst {p : List Sp} {ps : List (Sp × Value)} (h : ps.map (·.1) = p) (i : Nat) (s : Sp) (u : Value) : (ps.set i (s, u)).map (·.1) = p.set i s := by rw [List.map_set, h]
theorem map_get {p : List Sp} {ps : List (Sp × Value)} (h : ps.map (·.1) = p) {i : Nat} {s : Sp} (hs : p[i]? = some s) : ∃ u, ps[i]? = some (s, u) := by
  rw [← h, List.getElem?_map, Option.map_eq_some_iff] at hs
  obtain ⟨⟨s', u⟩, h1, rfl⟩ := hs
  exact ⟨u, h1⟩
end Go.Proofs.Ytidddeobachjgaa
