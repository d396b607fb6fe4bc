/- Patterns of the call's own: a comparison's field is written; a region of memory that others write. -/
import Derived.Test.YtidddeobachjgaaLibY
namespace Go.Proofs.Ytidddeobachjgaa
open Go.RowKit

theorem OwC.at {w : World} {base : Nat} {v : Value} {cs : List Cm} (h : OwC w base v cs) {i : Nat} {c : Cm} (hx : cs[i]? = some c) :
    ∃ g cap, v = .slice (some ⟨g, 0, none⟩) cs.length cap ∧ base ≤ g ∧ g < w.heap.size ∧ w.cell? ⟨g, i * 9, none⟩ = some (.int .u8 c.op) ∧ w.frozen? ⟨g, i * 9, none⟩ = false ∧ cs.length ≤ cap ∧ 0 ≤ c.op := by
  have hi := (List.getElem?_eq_some_iff.1 hx).1
  rcases h.1.2 with ⟨h2, h3⟩ | ⟨g, cap, cur, hv, hg, hh, hn, hm, hcs, htk⟩
  · omega
  · subst hv
    have hlt : i * 9 + 0 < cs.length * 9 := by omega
    have h0 := h.1.cellAt (i * 9 + 0) hlt
    rw [flat_get cm_len hx (by omega : 0 < 9)] at h0
    refine ⟨g, cap, rfl, hg, (Array.getElem?_eq_some_iff.1 hh).1, ?_, (blk_cell hh (i * 9) (by rw [hcs]; omega)).2, hn, h.2 c (List.mem_of_getElem? hx)⟩
    simpa [Cm.cells] using h0

theorem OwP.cm_write {w : World} {base i k gc kc nc : Nat} {v : Value} {ps : List (Sp × Value)} {s : Sp} {c : Cm} {x : Int} (h : OwP w base v ps) (hx : ps[i]? = some (s, .slice (some ⟨gc, 0, none⟩) nc kc)) (hc : s.cmps[k]? = some c) (h0 : 0 ≤ x) :
    OwP (w.setCell ⟨gc, k * 9, none⟩ (.int .u8 x)) base v (ps.set i ({ s with cmps := s.cmps.set k { c with op := x } }, .slice (some ⟨gc, 0, none⟩) nc kc)) := by
  have hi := (List.getElem?_eq_some_iff.1 hx).1
  have hxu : OwC w base (.slice (some ⟨gc, 0, none⟩) nc kc) s.cmps := h.cmps _ (List.mem_of_getElem? hx)
  have hn : nc = s.cmps.length := by
    obtain ⟨A, c, e⟩ := own_form hxu.1
    injection e
  subst hn
  have hst := World.ownsRow.stored hxu.1 (k * 9 + 0) (.int .u8 x)
  rw [flat_set cm_len hc (by omega : 0 < 9) (y := { c with op := x }) (by simp [Cm.cells])] at hst
  simp only [Nat.add_zero] at hst
  have hne : v.ownBlock = none ∨ v.ownBlock ≠ some gc := own_ne h.row hxu.1 (by decide)
  have hlen : (ps.set i ({ s with cmps := s.cmps.set k { c with op := x } }, (.slice (some ⟨gc, 0, none⟩) s.cmps.length kc : Value))).flatMap spc = ps.flatMap spc := by
    rw [List.flatMap_def, List.flatMap_def, List.map_set]
    congr 1
    exact set_same (by simp [hx, spc])
  have hmap : (ps.set i ({ s with cmps := s.cmps.set k { c with op := x } }, (.slice (some ⟨gc, 0, none⟩) s.cmps.length kc : Value))).map (·.2) = ps.map (·.2) := by
    rw [List.map_set]
    exact set_same (by simp [hx])
  refine ⟨?_, fun y hy => ?_, ?_⟩
  · have := World.ownsRow.kept h.row hst.2 hne
    simp only [OwR, List.length_set, hlen]
    exact this
  · obtain ⟨j, hj, rfl⟩ := List.mem_iff_getElem.1 hy
    by_cases e : j = i
    · subst e
      simp only [List.getElem_set_self]
      refine ⟨by simpa using hst.1, fun d hd => ?_⟩
      rcases List.mem_or_eq_of_mem_set hd with h1 | rfl
      · exact hxu.2 d h1
      · exact h0
    · rw [List.getElem_set_ne (Ne.symm e)]
      have hj' : j < ps.length := by simpa using hj
      have hap : ps[j].2.ownBlock = none ∨ ps[j].2.ownBlock ≠ some gc := by
        have hxi : ps[i] = (s, .slice (some ⟨gc, 0, none⟩) s.cmps.length kc) := (List.getElem?_eq_some_iff.1 hx).2
        rcases Nat.lt_or_gt_of_ne e with hlt | hgt
        · have := List.pairwise_iff_getElem.1 h.apart j i hj' hi hlt
          rw [hxi] at this
          exact this
        · have := List.pairwise_iff_getElem.1 h.apart i j hi hj' hgt
          rw [hxi] at this
          rcases this with e1 | e1
          · simp [Value.ownBlock] at e1
          · exact .inr (fun e2 => e1 (by rw [e2]; rfl))
      exact (h.cmps _ (List.getElem_mem _)).kept hst.2 hap
  · have ha : (ps.map (·.2)).Pairwise fun a b => a.ownBlock = none ∨ a.ownBlock ≠ b.ownBlock := List.pairwise_map.2 h.apart
    rw [← hmap] at ha
    exact List.pairwise_map.1 ha

/-- From world V to w nothing has changed outside the blocks from B up to X. -/
structure Mid (B X : Nat) (V w : World) : Prop where
  below : Below B V w
  size : w.heap.size = V.heap.size
  above : ∀ b, X ≤ b → w.heap[b]? = V.heap[b]?
theorem Mid.refl (B X : Nat) (V : World) : Mid B X V V := ⟨Below.refl _ _, rfl, fun _ _ => rfl⟩
theorem Mid.drew {B X : Nat} {V w : World} (h : Mid B X V w) : Mid B X V w.drew := ⟨⟨h.below.os, h.below.tape, h.below.output, h.below.size, h.below.block⟩, h.size, h.above⟩
theorem Mid.set_ {B X : Nat} {V w : World} (h : Mid B X V w) {g j : Nat} (h1 : B ≤ g) (h2 : g < X) (u : Value) : Mid B X V (w.setCell ⟨g, j, none⟩ u) :=
  ⟨h.below.setCell (p := ⟨g, j, none⟩) h1 u, by simpa [World.setCell] using h.size, fun b hb => (Below.heap_setCell w ⟨g, j, none⟩ u b (by show b ≠ g; omega)).trans (h.above b hb)⟩
theorem OwP.mid {B X base : Nat} {V w : World} {v : Value} {ps : List (Sp × Value)} (h : OwP V base v ps) (hm : Mid B X V w) (hX : X ≤ base) : OwP w base v ps := by
  refine ⟨own_same h.row fun g hg => hm.above g ?_, fun x hx => ⟨own_same (h.cmps x hx).1 fun g hg => hm.above g ?_, (h.cmps x hx).2⟩, h.apart⟩
  · have := (h.ownlt g hg).1; omega
  · have := (h.cmplt hx g hg).1; omega
theorem Blk.mid {B X g : Nat} {V w : World} {t : TypeId} {cs : Array Value} (h : Blk V g t cs) (hm : Mid B X V w) (hg : X ≤ g) : Blk w g t cs := (hm.above g hg).trans h
theorem OwP.drew {base : Nat} {w : World} {v : Value} {ps : List (Sp × Value)} (h : OwP w base v ps) : OwP w.drew base v ps :=
  h.below (B := w.heap.size) ⟨rfl, rfl, rfl, Nat.le_refl _, fun _ _ => rfl⟩ (Nat.le_refl _)
end Go.Proofs.Ytidddeobachjgaa
