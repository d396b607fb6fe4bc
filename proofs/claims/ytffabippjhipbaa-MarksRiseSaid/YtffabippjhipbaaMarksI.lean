/- What the functions of the layer of marks that go over an iterator compute: marks.some, marks.Right, marks.Least. -/
import Derived.Test.YtffabippjhipbaaMarksW
import Derived.Test.YtffabippjhipbaaLibV
import Derived.Test.YtffabippjhipbaaLibR
namespace Go.Proofs.Ytffabippjhipbaa
open Go.RowKit Go.Shelf
attribute [local go_sem] Oper.semAt_some

theorem some_any (a b c d sources : Int) (k : Nat) (hk : max 1 (min sources 4) = (k : Int)) (w : World) :
    Calls Try.prog 19 #[mar a b c d, .int .i64 sources] w fun e w' => e = .returned (.func (.func 24) #[] #[.pointer (some ⟨w.heap.size + 1, 0, none⟩)]) ∧
      w' = (w.alloc (.cells #[.int .i64 a, .int .i64 b, .int .i64 c, .int .i64 d] 22)).alloc (.cells #[.slice (some ⟨w.heap.size, 0, none⟩) k 4] 42) := by
  have h : (sources < 1 ∧ k = 1) ∨ (sources = 1 ∧ k = 1) ∨ (sources = 2 ∧ k = 2) ∨ (sources = 3 ∧ k = 3) ∨ (sources = 4 ∧ k = 4) ∨ (4 < sources ∧ k = 4) := by omega
  clear hk
  rcases h with ⟨h, rfl⟩ | ⟨rfl, rfl⟩ | ⟨rfl, rfl⟩ | ⟨rfl, rfl⟩ | ⟨rfl, rfl⟩ | ⟨h, rfl⟩
  all_goals
    go_enter Try.func19, Try.ntmps19
    go_wp2_with (go_at_call 22; refine (values_calls _ _ _ _).mono ?_; rintro e w' ⟨rfl, rfl⟩)
    all_goals (try go_ret)
    all_goals exact ⟨rfl, rfl⟩

def rightF (a b c d : Int) : Bool := decide ((0 ≤ a ∧ a ≤ 1099511627776) ∧ (0 ≤ b ∧ b ≤ 1099511627776) ∧ (0 ≤ c ∧ c ≤ 1099511627776) ∧ (0 ≤ d ∧ d ≤ 1099511627776))
/-- The first k of the marks. -/
def firsts (a b c d : Int) (k : Nat) : List Int := [a, b, c, d].take k

theorem arr_cells (w : World) (g : Nat) (a b c d : Int) (k : Nat) (hk : k ≤ 4) (t : TypeId) (hh : w.heap[g]? = some (.cells #[.int .i64 a, .int .i64 b, .int .i64 c, .int .i64 d] t (0, 0))) (j : Nat) (hj : j < (firsts a b c d k).length) :
    w.cell? ⟨g, 0 + j, none⟩ = some (.int .i64 ((firsts a b c d k)[j]?.getD 0)) := by
  rw [Nat.zero_add, cell_of_row w g j _ t (0, 0) hh]
  have : j < k := by simp [firsts] at hj; omega
  have h4 : j = 0 ∨ j = 1 ∨ j = 2 ∨ j = 3 := by omega
  have hfj : (firsts a b c d k)[j]? = [a, b, c, d][j]? := by simp [firsts, this]
  rw [hfj]
  rcases h4 with rfl | rfl | rfl | rfl <;> rfl

set_option maxRecDepth 100000 in
set_option maxHeartbeats 2000000 in
theorem right_any (a b c d : Int) (w : World) :
    Calls Try.prog 10 #[mar a b c d] w fun e w' => e = .returned (.bool (rightF a b c d)) ∧ Below w.heap.size w w' := by
  refine (callsIn_wide (n := 3)).1 ?_
  refine callsIn_of_wp_marks Try.func10 rfl trivial ?_ rfl
  simp only [Try.ntmps10, List.size_toArray, List.length_cons, List.length_nil, Nat.reduceAdd, Nat.reduceSub, Array.replicate_succ, Array.replicate_zero, List.push_toArray, List.append_toArray, List.nil_append, List.cons_append]
  gi_wp2_with (refine ⟨trivial, ?_⟩; gi_at_call 19; refine (callsIn_wide.2 (some_any _ _ _ _ _ 4 (by decide) _)).mono ?_; rintro e w' ⟨rfl, rfl⟩)
  have hA : Blk ((((w.alloc (.cells #[.int .i64 a, .int .i64 b, .int .i64 c, .int .i64 d] 22)).alloc (.cells #[.bool false] 4)).alloc (.cells #[.int .i64 a, .int .i64 b, .int .i64 c, .int .i64 d] 22)).alloc (.cells #[.slice (some ⟨w.heap.size + 1 + 1, 0, none⟩) 4 4] 42)) (w.heap.size + 1 + 1) 22 #[.int .i64 a, .int .i64 b, .int .i64 c, .int .i64 d] := (Blk.new_ (by simp) _ _).alloc _
  have hS : Blk ((((w.alloc (.cells #[.int .i64 a, .int .i64 b, .int .i64 c, .int .i64 d] 22)).alloc (.cells #[.bool false] 4)).alloc (.cells #[.int .i64 a, .int .i64 b, .int .i64 c, .int .i64 d] 22)).alloc (.cells #[.slice (some ⟨w.heap.size + 1 + 1, 0, none⟩) 4 4] 42)) (w.heap.size + 1 + 1 + 1) 42 #[.slice (some ⟨w.heap.size + 1 + 1, 0, none⟩) 4 4] := Blk.new_ (by simp) _ _
  have hR : Blk ((((w.alloc (.cells #[.int .i64 a, .int .i64 b, .int .i64 c, .int .i64 d] 22)).alloc (.cells #[.bool false] 4)).alloc (.cells #[.int .i64 a, .int .i64 b, .int .i64 c, .int .i64 d] 22)).alloc (.cells #[.slice (some ⟨w.heap.size + 1 + 1, 0, none⟩) 4 4] 42)) (w.heap.size + 1) 4 #[.bool false] := ((Blk.new_ (by simp) _ _).alloc _).alloc _
  have hB : Below w.heap.size w ((((w.alloc (.cells #[.int .i64 a, .int .i64 b, .int .i64 c, .int .i64 d] 22)).alloc (.cells #[.bool false] 4)).alloc (.cells #[.int .i64 a, .int .i64 b, .int .i64 c, .int .i64 d] 22)).alloc (.cells #[.slice (some ⟨w.heap.size + 1 + 1, 0, none⟩) 4 4] 42)) := ((((Below.refl _ w).alloc (Nat.le_refl _) _).alloc (by simp) _).alloc (by simp; omega) _).alloc (by simp; omega) _
  have hz : ((((w.alloc (.cells #[.int .i64 a, .int .i64 b, .int .i64 c, .int .i64 d] 22)).alloc (.cells #[.bool false] 4)).alloc (.cells #[.int .i64 a, .int .i64 b, .int .i64 c, .int .i64 d] 22)).alloc (.cells #[.slice (some ⟨w.heap.size + 1 + 1, 0, none⟩) 4 4] 42)).heap.size = w.heap.size + 4 := by simp
  generalize ((((w.alloc (.cells #[.int .i64 a, .int .i64 b, .int .i64 c, .int .i64 d] 22)).alloc (.cells #[.bool false] 4)).alloc (.cells #[.int .i64 a, .int .i64 b, .int .i64 c, .int .i64 d] 22)).alloc (.cells #[.slice (some ⟨w.heap.size + 1 + 1, 0, none⟩) 4 4] 42)) = W0 at *
  refine rf_law (gf := 24) (lb := #[.pointer (some ⟨w.heap.size + 1 + 1 + 1, 0, none⟩)]) rfl (enters_of Try.func24 (by kernel_rfl) rfl)
    (values_stops Fence.wide 2 trivial rfl (by omega) (w.heap.size + 1 + 1 + 1) (w.heap.size + 1 + 1) 0 4 (firsts a b c d 4) (by simp [firsts]) W0 (by omega) (by omega) (by rw [hS.cell]; rfl) (arr_cells W0 _ a b c d 4 (by omega) _ hA))
    KB.trans (KB.putObj (by omega)) (fun _ => rfl)
    (fun pre W => (∀ x ∈ pre, 0 ≤ x ∧ x ≤ 1099511627776) ∧ Blk W (w.heap.size + 1) 4 #[.bool false] ∧ Below w.heap.size w W)
    (fun j pre W => j = .ret ∧ (∃ x ∈ pre, ¬ (0 ≤ x ∧ x ≤ 1099511627776)) ∧ Blk W (w.heap.size + 1) 4 #[.bool false] ∧ Below w.heap.size w W)
    (fun pre W W' h k => ⟨h.1, h.2.1.kept k, h.2.2.trans (k.below.mono (by omega))⟩) (fun j pre W W' h k => ⟨h.1, h.2.1, h.2.2.1.kept k, h.2.2.2.trans (k.below.mono (by omega))⟩)
    ⟨by simp, hR, hB⟩
    (fun x => { tmps := #[mar a b c d, .pointer (some ⟨w.heap.size, 0, none⟩), .pointer (some ⟨w.heap.size + 1, 0, none⟩), .int .i64 x, mar a b c d, .func (.func 24) #[] #[.pointer (some ⟨w.heap.size + 1 + 1 + 1, 0, none⟩)], .int .i64 x, undef, undef, undef, undef, undef, undef], defers := [] }) ?assign ?body ?done ?stop
  case assign =>
    intro l x W K hK
    gi_wp2
    exact hK
  case body =>
    rintro l pre x W hW ⟨hp, hr, hb⟩ _
    have hrf := hr.frozen 0
    have hrc := hr.one
    by_cases hx : 0 ≤ x ∧ x ≤ 1099511627776
    · obtain ⟨hx0, hx1⟩ := hx
      gi_wp2
      exact ⟨KeepsFrom.refl _ _, KB.refl _ _, fun y hy => (List.mem_append.1 hy).elim (hp y) (fun e => by simp at e; subst e; exact ⟨hx0, hx1⟩), hr, hb⟩
    · by_cases h0 : x < 0
      · gi_wp2
        exact ⟨keepsFrom_set _ _ _ _, rfl, ⟨x, by simp, by omega⟩, hr.set_ 0 _, hb.setCell (p := ⟨w.heap.size + 1, 0, none⟩) (by simp) _⟩
      · have h1 : 1099511627776 < x := by omega
        gi_wp2
        exact ⟨keepsFrom_set _ _ _ _, rfl, ⟨x, by simp, by omega⟩, hr.set_ 0 _, hb.setCell (p := ⟨w.heap.size + 1, 0, none⟩) (by simp) _⟩
  case done =>
    rintro D xs W hD rfl ⟨hp, hr, hb⟩ hK
    have hrf := hr.frozen 0
    have hrc := hr.one
    have hf : rightF a b c d = true := by
      simp only [firsts, List.take_succ_cons, List.take_zero, List.mem_cons, List.not_mem_nil, or_false, forall_eq_or_imp, forall_eq] at hp
      simpa [rightF] using hp
    have HF := hide hf
    clear hp hf
    gi_wp2
    have hK' : (W.setCell ⟨w.heap.size + 1, 0, none⟩ (.bool true)).heap[D]? = some (.deferred (some [])) := (Below.heap_setCell _ _ _ _ (by simp; omega)).trans hK
    have hr' := hr.set_ 0 (.bool true)
    have hr2 := hr'.putObj (l := D) (o' := .deferred none) hK' rfl
    have hrc2 := hr2.one
    refine rf_ret (v := .bool true) rfl hK' (by simp [results, Try.f10, go_sem, hrc2]) ⟨by rw [HF.out], ?_⟩
    exact Below.putD (hb.setCell (p := ⟨w.heap.size + 1, 0, none⟩) (by simp) _) (by have := hb.size; simp [World.setCell]; omega) (by omega) _
  case stop =>
    rintro D j pre W hD hpre ⟨rfl, ⟨x, hx, hn⟩, hr, hb⟩ hK
    have hf : rightF a b c d = false := by
      have hx' := hpre.subset hx
      simp only [firsts, List.take_succ_cons, List.take_zero, List.mem_cons, List.not_mem_nil, or_false] at hx'
      simp only [rightF, decide_eq_false_iff_not]
      rintro ⟨h1, h2, h3, h4⟩
      rcases hx' with rfl | rfl | rfl | rfl <;> contradiction
    have HF := hide hf
    clear hx hpre hf
    gi_wp2
    have hrc2 := (hr.putObj (l := D) (o' := .deferred none) hK rfl).one
    exact rf_ret (v := .bool false) rfl hK (by simp [results, Try.f10, go_sem, hrc2]) ⟨by rw [HF.out], Below.putD hb hb.size (by omega) _⟩

def leastF (a b c d sources : Int) : Int := if sources ≤ 1 then a else if sources = 2 then min a b else if sources = 3 then min (min a b) c else min (min (min a b) c) d
theorem leastF_fold (a b c d sources : Int) (k : Nat) (hk : max 1 (min sources 4) = (k : Int)) : (firsts a b c d k).foldl min a = leastF a b c d sources := by
  have h : (sources ≤ 1 ∧ k = 1) ∨ (sources = 2 ∧ k = 2) ∨ (sources = 3 ∧ k = 3) ∨ (4 ≤ sources ∧ k = 4) := by omega
  rcases h with ⟨h, rfl⟩ | ⟨rfl, rfl⟩ | ⟨rfl, rfl⟩ | ⟨h, rfl⟩
  · simp [firsts, leastF, h]
  · simp [firsts, leastF]
  · simp [firsts, leastF]
  · have h1 : ¬ sources ≤ 1 := by omega
    have h2 : ¬ sources = 2 := by omega
    have h3 : ¬ sources = 3 := by omega
    simp [firsts, leastF, h1, h2, h3]

set_option maxRecDepth 100000 in
set_option maxHeartbeats 2000000 in
theorem least_any (a b c d sources : Int) (w : World) :
    Calls Try.prog 12 #[mar a b c d, .int .i64 sources] w fun e w' => e = .returned (.int .i64 (leastF a b c d sources)) ∧ Below w.heap.size w w' := by
  obtain ⟨k, hk⟩ : ∃ k : Nat, max 1 (min sources 4) = (k : Int) := ⟨(max 1 (min sources 4)).toNat, by omega⟩
  have hk4 : k ≤ 4 := by omega
  have hfl : (firsts a b c d k).length = k := by simp [firsts]; omega
  have HL := hide (leastF_fold a b c d sources k hk)
  have HK := hide hk
  have HFL := hide hfl
  clear hk hfl
  refine (callsIn_wide (n := 3)).1 ?_
  refine callsIn_of_wp_marks Try.func12 rfl trivial ?_ rfl
  simp only [Try.ntmps12, List.size_toArray, List.length_cons, List.length_nil, Nat.reduceAdd, Nat.reduceSub, Array.replicate_succ, Array.replicate_zero, List.push_toArray, List.append_toArray, List.nil_append, List.cons_append]
  gi_wp2_with (refine ⟨trivial, ?_⟩; gi_at_call 19; refine (callsIn_wide.2 (some_any _ _ _ _ _ k HK.out _)).mono ?_; rintro e w' ⟨rfl, rfl⟩)
  obtain ⟨W0, hW0⟩ : ∃ W0, (((w.alloc (.cells #[.int .i64 a, .int .i64 b, .int .i64 c, .int .i64 d] 22)).alloc (.cells #[.int .i64 a] 3)).alloc (.cells #[.int .i64 a, .int .i64 b, .int .i64 c, .int .i64 d] 22)).alloc (.cells #[.slice (some ⟨w.heap.size + 1 + 1, 0, none⟩) k 4] 42) = W0 := ⟨_, rfl⟩
  rw [hW0]
  have hA : Blk W0 (w.heap.size + 1 + 1) 22 #[.int .i64 a, .int .i64 b, .int .i64 c, .int .i64 d] := by rw [← hW0]; exact (Blk.new_ (by simp) _ _).alloc _
  have hS : Blk W0 (w.heap.size + 1 + 1 + 1) 42 #[.slice (some ⟨w.heap.size + 1 + 1, 0, none⟩) k 4] := by rw [← hW0]; exact Blk.new_ (by simp) _ _
  have hR : Blk W0 (w.heap.size + 1) 3 #[.int .i64 a] := by rw [← hW0]; exact ((Blk.new_ (by simp) _ _).alloc _).alloc _
  have hB : Below w.heap.size w W0 := by rw [← hW0]; exact ((((Below.refl _ w).alloc (Nat.le_refl _) _).alloc (by simp) _).alloc (by simp; omega) _).alloc (by simp; omega) _
  have hz : W0.heap.size = w.heap.size + 4 := by rw [← hW0]; simp
  clear hW0
  refine rf_law (gf := 24) (lb := #[.pointer (some ⟨w.heap.size + 1 + 1 + 1, 0, none⟩)]) rfl (enters_of Try.func24 (by kernel_rfl) rfl)
    (values_stops Fence.wide 2 trivial rfl (by omega) (w.heap.size + 1 + 1 + 1) (w.heap.size + 1 + 1) 0 4 (firsts a b c d k) (by rw [HFL.out]; omega) W0 (by omega) (by omega) (by rw [hS.cell, HFL.out]; rfl) (arr_cells W0 _ a b c d k hk4 _ hA))
    KB.trans (KB.putObj (by omega)) (fun _ => rfl)
    (fun pre W => Blk W (w.heap.size + 1) 3 #[.int .i64 (pre.foldl min a)] ∧ Below w.heap.size w W)
    (fun _ _ _ => False)
    (fun pre W W' h k => ⟨h.1.kept k, h.2.trans (k.below.mono (by omega))⟩) (fun _ _ _ _ h _ => h)
    ⟨hR, hB⟩
    ?a1 ?assign ?body ?done ?stop
  case assign =>
    intro l x W K hK
    gi_wp2
    exact hK
  case body =>
    rintro l pre x W hW ⟨hr, hb⟩ _
    have hrf := hr.frozen 0
    have hrc := hr.one
    generalize hm : pre.foldl min a = m at *
    have hn : (pre ++ [x]).foldl min a = min m x := by simp [List.foldl_append, hm]
    have HM := hide hn
    clear hm hn
    by_cases hx : x < m
    · gi_wp2
      refine ⟨keepsFrom_set _ _ _ _, KB.setCell (by simp) _, ?_, hb.setCell (p := ⟨w.heap.size + 1, 0, none⟩) (by simp) _⟩
      rw [HM.out, show min m x = x from by omega]; exact hr.set_ 0 _
    · gi_wp2
      refine ⟨keepsFrom_set _ _ _ _, KB.setCell (by simp) _, ?_, hb.setCell (p := ⟨w.heap.size + 1, 0, none⟩) (by simp) _⟩
      rw [HM.out, show min m x = m from by omega]; exact hr.set_ 0 _
  case done =>
    rintro D xs W hD rfl ⟨hr, hb⟩ hK
    have hrf := hr.frozen 0
    have hrc := hr.one
    gi_wp2
    have hrc2 := (hr.putObj (l := D) (o' := .deferred none) hK rfl).one
    exact rf_ret (v := .int .i64 ((firsts a b c d k).foldl min a)) rfl hK (by simp [results, Try.f12, go_sem]) ⟨by rw [HL.out], Below.putD hb hb.size (by omega) _⟩
  case stop =>
    rintro D j pre W hD hpre h hK
    exact h.elim
end Go.Proofs.Ytffabippjhipbaa
