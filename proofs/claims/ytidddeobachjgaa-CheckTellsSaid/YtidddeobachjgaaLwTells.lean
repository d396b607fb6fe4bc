/- The law CheckTells: its walk. -/
import Derived.Test.YtidddeobachjgaaWkC
import Derived.Test.YtidddeobachjgaaRcD
namespace Go.Proofs.Ytidddeobachjgaa
open Go.RowKit
attribute [local go_sem] grown_cell grown_frozen

set_option maxRecDepth 100000 in
set_option maxHeartbeats 4000000 in
theorem checkTells_walk (p : List Sp) (win i : Int) (v : Value) (w : World) (h : RdS w w.heap.size v p) :
    Calls Try.prog 7 #[ptV v win, .int .i64 i] w fun e w' => e = .returned (.bool true) ∧ Below w.heap.size w w' := by
  have hgr := hide fun w1 (hb : Below w.heap.size w w1) => great11_any p win v w1 (h.below hb hb.size)
  cases hg : greatB p with
  | true =>
    rw [hg] at hgr
    obtain ⟨A, cap, rfl⟩ := h.len
    clear h hg
    go_enter Try.func7, Try.ntmps7
    have hX := hide ((Below.refl w.heap.size w).alloc (Nat.le_refl _) (.cells #[.slice A p.length cap, .int .i64 win] 24))
    go_wp2_with (first | (go_at_call 26; (with_reducible refine (stayf (G := w.heap.size + 1) (hgr.out _ hX.out) (by simp)).mono ?_); rintro e w1 ⟨rfl, hc1, hf1, hz1, hB1⟩) | (go_at_call 27; (with_reducible refine (wakes11_true _).mono ?_); rintro e w2 ⟨rfl, hB2⟩))
    go_ret
    exact ⟨rfl, (hX.out.trans (hB1.out.mono (by omega))).trans (hB2.mono (by omega))⟩
  | false =>
    rw [hg] at hgr
    obtain ⟨h40, hc20⟩ := great_no hg
    have hcl : ∀ s ∈ p, s.cmps.length ≤ 1000 := fun s hs => by have := hc20 s hs; omega
    have k1 := hide fun w1 (hb : Below w.heap.size w w1) => check_any p win v w1 (h.below hb hb.size)
    have k2 := hide fun w1 (hb : Below w.heap.size w w1) => rcheck_any p win v w1 (h.below hb hb.size) hcl
    have k3 := hide fun w1 (hb : Below w.heap.size w w1) (_ : w.heap.size ≤ w1.heap.size) => cright_any p win v w1 (h.below hb hb.size)
    have k4 := hide fun w1 (hb : Below w.heap.size w w1) (_ : w.heap.size ≤ w1.heap.size) => rcright_any p win v w1 (h.below hb hb.size) hcl
    have k5 := hide fun w1 (hb : Below w.heap.size w w1) (_ : w.heap.size ≤ w1.heap.size) => tail_any p win v w1 (h.below hb hb.size)
    have k6 := hide fun w1 (hb : Below w.heap.size w w1) (_ : w.heap.size ≤ w1.heap.size) => rtail_any p win v w1 (h.below hb hb.size)
    have k7 := hide fun w1 (hb : Below w.heap.size w w1) (_ : w.heap.size ≤ w1.heap.size) => head_any p win i v w1 (h.below hb hb.size)
    have k8 := hide fun w1 (hb : Below w.heap.size w w1) (_ : w.heap.size ≤ w1.heap.size) => rhead_any p win i v w1 (h.below hb hb.size)
    have k9 := hide fun w1 => wakes11_true w1
    obtain ⟨A, cap, rfl⟩ := h.len
    clear h hg h40 hc20 hcl
    have hX := hide ((Below.refl w.heap.size w).alloc (Nat.le_refl _) (.cells #[.slice A p.length cap, .int .i64 win] 24))
    generalize checkF p win = t at *
    obtain ⟨ta, tb, tc⟩ := t
    simp only at k1 k2
    generalize mayB p win = mb at *
    generalize tailF p = tl at *
    generalize headF p i = hd at *
    go_enter Try.func7, Try.ntmps7
    go_upto_region 5 with (first | (go_at_call 26; (with_reducible refine (stayf (G := w.heap.size + 1) (hgr.out _ hX.out) (by simp)).mono ?_); rintro e1 w1 ⟨rfl, hc1, hf1, hz1, hB1⟩; have hX1 := hide (hX.out.trans (hB1.out.mono (by omega)))) | (go_at_call 28; (with_reducible refine (stayf (G := w.heap.size + 1) (k1.out _ hX1.out) hz1).mono ?_); rintro e1 w2 ⟨rfl, hc2, hf2', hz2, hB2⟩; have hX2 := hide (hX1.out.trans (hB2.out.mono (by omega)))) | (go_at_call 29; (with_reducible refine (stayf (G := w.heap.size + 1) (k2.out _ hX2.out) hz2).mono ?_); rintro e1 w3 ⟨rfl, hc3, hf3, hz3, hB3⟩; have hX3 := hide (hX2.out.trans (hB3.out.mono (by omega)))))
    have e0 : w3.cell? ⟨w.heap.size, 0, none⟩ = some (.slice A p.length cap) := by rw [hc3 _ _ (by omega), hc2 _ _ (by omega), hc1 _ _ (by omega)]; simp
    have e1 : w3.cell? ⟨w.heap.size, 1, none⟩ = some (.int .i64 win) := by rw [hc3 _ _ (by omega), hc2 _ _ (by omega), hc1 _ _ (by omega)]; simp
    have hz : w.heap.size < w3.heap.size := hz3
    clear hc1 hc2 hc3 hf1 hf2' hf3 hz1 hz2 hB1 hB2 hB3 hX1 hX2 hX k1 k2 hgr
    refine wp_region_grown w3.heap.size (Nat.le_refl _) (by kernel_rfl) (by kernel_rfl) ?_
    repeat (any_goals (first | go_big_quiet_step ((first
      | (go_at_call 30; (with_reducible exact calls_grown' (Nat.le_refl _) (fun w1 hb hz1 => k3.out w1 (hX3.out.trans (hb.mono (by omega))) (by omega))))
      | (go_at_call 31; (with_reducible exact calls_grown' (Nat.le_refl _) (fun w1 hb hz1 => k4.out w1 (hX3.out.trans (hb.mono (by omega))) (by omega))))
      | (go_at_call 32; (with_reducible exact calls_grown' (Nat.le_refl _) (fun w1 hb hz1 => k5.out w1 (hX3.out.trans (hb.mono (by omega))) (by omega))))
      | (go_at_call 33; (with_reducible exact calls_grown' (Nat.le_refl _) (fun w1 hb hz1 => k6.out w1 (hX3.out.trans (hb.mono (by omega))) (by omega))))
      | (go_at_call 34; (with_reducible exact calls_grown' (Nat.le_refl _) (fun w1 hb hz1 => k7.out w1 (hX3.out.trans (hb.mono (by omega))) (by omega))))
      | (go_at_call 35; (with_reducible exact calls_grown' (Nat.le_refl _) (fun w1 hb hz1 => k8.out w1 (hX3.out.trans (hb.mono (by omega))) (by omega))))
      | (go_at_call 27; (with_reducible exact calls_grown (Nat.le_refl _) k9.out)))) | quiet_step (fail)))
    refine wpQuiet_nil ?_; intro _ hw'; obtain ⟨nq, hw''⟩ := hw'; subst hw''
    go_wp2
    go_ret
    exact ⟨rfl, hX3.out.trans ((grown_below _ _ _).mono (by omega))⟩
end Go.Proofs.Ytidddeobachjgaa
