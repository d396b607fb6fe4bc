/- slices.Sort and slices.Compact on a row that the call owns. -/
import Derived.Test.YtidddeobachjgaaLibI
import Derived.Test.YtidddeobachjgaaPlS
import Derived.Test.YtidddeobachjgaaShelf
import Derived.Sort.OwnSortedInts
namespace Go.Proofs.Ytidddeobachjgaa
open Go.RowKit Go.Sort Go.Lib

theorem sort_own {w : World} {base : Nat} {v : Value} {l : List Int} (h : OwI w base v l) (hl : l.length < 1000000) :
    Calls Try.prog 49 #[v] w fun e w' => e = .returned (.tuple #[]) ∧ OwI w' base v (l.mergeSort fun x y => decide (x ≤ y)) ∧ w.grownBy w' v.ownBlock := by
  rcases h.2 with ⟨h2, h3⟩ | ⟨g, cap, cur, hv, hg, hh, hn, hm, hs, ht⟩
  · obtain rfl := List.eq_nil_of_length_eq_zero h3
    subst h2
    refine (Try.slices_Sort_int_none none 0 w).mono ?_
    rintro e w' ⟨rfl, rfl⟩
    exact ⟨rfl, by simpa using OwI.nil _ _, World.grownBy.refl _ _⟩
  · subst hv
    have hH := holds_of_blockI (ss := l) hh (by simpa using ht)
    refine (Try.slices_Sort_int g 0 cap l w hH (Array.getElem?_eq_some_iff.1 hh).1 (by omega)).mono ?_
    rintro e w' ⟨rfl, n, os, rfl⟩
    refine ⟨rfl, ?_, grownBy_sortedI _⟩
    have := ownsRow_sortedI (n := n) (os := os) (ts := l.mergeSort fun x y => decide (x ≤ y)) (ss := l) (by simp) hg hh hn hm hs
    simpa [OwI] using this

theorem grow_nil (w : World) : grow w #[] = w := by
  cases w
  simp [grow]
theorem compact_len (zs : List Int) : (compact zs).length ≤ zs.length := by
  have : ∀ m, (compactUpTo zs.toArray m).length ≤ m := by
    intro m
    induction m with
    | zero => simp [compactUpTo]
    | succ m ih => rw [compactUpTo_succ, List.length_append]; split <;> simp <;> omega
  exact this _

theorem compact_own {w : World} {base : Nat} {v : Value} {l : List Int} (h : OwI w base v l) (hl : l.length < 1000000) :
    Calls Try.prog 50 #[v] w fun e w' => (∃ v', e = .returned v' ∧ OwI w' base v' (compact l)) ∧ w.grownBy w' v.ownBlock := by
  rcases h.2 with ⟨h2, h3⟩ | ⟨g, cap, cur, hv, hg, hh, hn, hm, hs, ht⟩
  · obtain rfl := List.eq_nil_of_length_eq_zero h3
    subst h2
    refine (Try.slices_Compact_int_empty none 0 w).mono ?_
    rintro e w' ⟨rfl, rfl⟩
    exact ⟨⟨_, rfl, OwI.nil _ _⟩, World.grownBy.refl _ _⟩
  · subst hv
    have hH := holds_of_blockI (ss := l) hh (by simpa using ht)
    have hcl := compact_len l
    refine (Try.slices_Compact_int g 0 cap l w hH (by omega) hn).mono ?_
    rintro e w' ⟨rfl, q, rfl⟩
    have e1 : putRow (Value.int .i64) (Sort.ahead w q) g 0 (compact l ++ List.replicate (l.length - (compact l).length) 0).toArray =
        grow (putRow (Value.int .i64) (Sort.ahead w q) g 0 (compact l ++ List.replicate (l.length - (compact l).length) 0).toArray) #[] := (grow_nil _).symm
    rw [e1]
    refine ⟨⟨_, rfl, ?_⟩, grownBy_sortedI _⟩
    have hb := heap_sortedI (n := q) (os := #[]) (compact l ++ List.replicate (l.length - (compact l).length) 0).toArray hh
    refine ⟨by simp, .inr ⟨g, cap, _, rfl, hg, hb, by omega, hm, by simp [putCells, hs], ?_⟩⟩
    have ht2 := take_putCellsI cur (compact l ++ List.replicate (l.length - (compact l).length) 0) (by simp only [List.length_append, List.length_replicate]; omega)
    have hlen : (compact l ++ List.replicate (l.length - (compact l).length) 0).length = l.length := by simp only [List.length_append, List.length_replicate]; omega
    rw [hlen] at ht2
    have h4 := congrArg (List.take (compact l).length) ht2
    rw [List.take_take, Nat.min_eq_left hcl, ← List.map_take, List.take_left] at h4
    simpa using h4
end Go.Proofs.Ytidddeobachjgaa
