/- A pattern with fewer steps and comparisons: it reads as such. -/
import Derived.Test.YtidddeobachjgaaLibY
import Derived.Test.YtidddeobachjgaaPlL
namespace Go.Proofs.Ytidddeobachjgaa
open Go.RowKit

theorem RdL.take_ {α : Type} {sz : Nat} {cells : World → Nat → α → List Value → Prop} {w : World} {B : Nat} {A : Option Addr} {n cap : Nat} {xs : List α} (h : RdL sz cells w B (.slice A n cap) xs) (k : Nat) (hk : k ≤ xs.length) :
    RdL sz cells w B (.slice A k cap) (xs.take k) := by
  obtain ⟨A', cap', b, off, e, h2, h3, h4, h5⟩ := h
  injection e with e1 e2 e3
  subst e1 e3
  refine ⟨A, cap, b, off, by simp; omega, by simp; omega, h3, fun h0 => h4 (by simp at h0; omega), fun i x hx => h5 i x ?_⟩
  rw [List.getElem?_take] at hx
  split at hx
  · exact hx
  · cases hx

theorem less_rd {w : World} {base g n cap i nc kc m : Nat} {Ac : Option Addr} {ps : List (Sp × Value)} {s : Sp} (h : OwP w base (.slice (some ⟨g, 0, none⟩) n cap) ps) (hx : ps[i]? = some (s, .slice Ac nc kc)) (hm : m ≤ s.cmps.length) :
    RdS (w.setCell ⟨g, i * 6 + 5, none⟩ (.slice Ac m kc)) w.heap.size (.slice (some ⟨g, 0, none⟩) (i + 1) cap) (lessP (ps.map (·.1)) i m s) := by
  have hn : n = ps.length := by
    obtain ⟨A, c, e⟩ := h.form
    injection e
  subst hn
  have hi := (List.getElem?_eq_some_iff.1 hx).1
  have hxu : OwC w base (.slice Ac nc kc) s.cmps := h.cmps _ (List.mem_of_getElem? hx)
  have hst := World.ownsRow.stored h.row (i * 6 + 5) (.slice Ac m kc)
  have hrow2 : OwR (w.setCell ⟨g, i * 6 + 5, none⟩ (.slice Ac m kc)) base (.slice (some ⟨g, 0, none⟩) ps.length cap) (ps.set i ({ s with cmps := s.cmps.take m }, .slice Ac m kc)) := by
    have := hst.1
    rw [flat_set sp_len hx (by omega) (y := ({ s with cmps := s.cmps.take m }, .slice Ac m kc)) (by simp [spc])] at this
    simpa [OwR] using this
  have hset : ∀ (v : Value) (cs : List Cm), OwC w base v cs → OwC (w.setCell ⟨g, i * 6 + 5, none⟩ (.slice Ac m kc)) base v cs := fun v cs hv => hv.set_ (p := ⟨g, i * 6 + 5, none⟩) (by
    intro e
    have := own_ne h.row hv.1 (by decide)
    rcases this with e1 | e1
    · simp [Value.ownBlock] at e1
    · exact e1 (by rw [← e]; rfl)) _
  have hrd := rd_of_row hrow2 (fun x hx' => by
    obtain ⟨j, hj, rfl⟩ := List.mem_iff_getElem.1 hx'
    by_cases e : j = i
    · subst e
      simp only [List.getElem_set_self]
      exact RdL.take_ (hset _ _ hxu).rd m hm
    · rw [List.getElem_set_ne (Ne.symm e)]
      exact (hset _ _ (h.cmps _ (List.getElem_mem _))).rd)
  rw [List.map_set] at hrd
  have h3 := RdL.take_ hrd (i + 1) (by simp; omega)
  simpa [lessP] using h3
theorem less_cl {p : List Sp} {i m k : Nat} {s : Sp} (h : ∀ t ∈ p, t.cmps.length ≤ k) (hs : p[i]? = some s) : ∀ t ∈ lessP p i m s, t.cmps.length ≤ k := fun t ht => by
  rcases List.mem_or_eq_of_mem_set (List.mem_of_mem_take ht) with h1 | rfl
  · exact h t h1
  · have := h s (List.mem_of_getElem? hs)
    simp only [List.length_take]
    omega
theorem less_len {p : List Sp} {i m : Nat} {s : Sp} (h : i < p.length) : (lessP p i m s).length = i + 1 := by simp [lessP]; omega
end Go.Proofs.Ytidddeobachjgaa
