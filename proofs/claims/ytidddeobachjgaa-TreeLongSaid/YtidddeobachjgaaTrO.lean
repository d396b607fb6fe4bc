/- The names of a term: the walk of tree.Names. -/
import Derived.Test.YtidddeobachjgaaTrN
namespace Go.Proofs.Ytidddeobachjgaa
open Go.RowKit Go.Shelf
attribute [local go_sem] Oper.semAt_some

set_option maxRecDepth 100000 in
set_option maxHeartbeats 4000000 in
theorem tnames_any (t : Tm) (w : World) :
    Calls Try.prog 20 #[tmV t] w fun e w' => (∃ v, e = .returned v ∧ OwI w' w.heap.size v t.names) ∧ Below w.heap.size w w' := by
  refine (callsIn_wide (n := 3)).1 ?_
  refine callsIn_of_wp_marks Try.func20 rfl trivial ?_ rfl
  simp only [Try.ntmps20, List.size_toArray, List.length_cons, List.length_nil, Nat.reduceAdd, Nat.reduceSub, Array.replicate_succ, Array.replicate_zero, List.push_toArray, List.append_toArray, List.nil_append, List.cons_append]
  gi_wp2_with (refine ⟨trivial, ?_⟩; gi_at_call 48; (with_reducible refine (callsIn_wide.2 (names_any t _)).mono ?_); rintro e w1 ⟨rfl, rfl⟩)
  obtain ⟨W2, hW2⟩ : ∃ W2, ((w.alloc (.cells #[.int .u8 t.k, .int .i64 t.n, .int .i64 t.s, .int .i64 t.r] 34)).alloc (.cells #[.slice none 0 0] 39)).alloc (.cells #[.int .u8 t.k, .int .i64 t.n, .int .i64 t.s, .int .i64 t.r] 34) = W2 := ⟨_, rfl⟩
  rw [hW2]
  have hboxW2 : Boxed W2 (w.heap.size + 1) 39 (.slice none 0 0) := by
    rw [← hW2]
    have := Boxed.new (w.alloc (.cells #[.int .u8 t.k, .int .i64 t.n, .int .i64 t.s, .int .i64 t.r] 34)) 39 (.slice none 0 0)
    exact Boxed.alloc (by simpa using this) _
  have hBW2 : Below w.heap.size w W2 := by rw [← hW2]; exact (((Below.refl _ _).alloc (Nat.le_refl _) _).alloc (by simp) _).alloc (by simp; omega) _
  have hBtW2 : Blk W2 (w.heap.size + 2) 34 #[.int .u8 t.k, .int .i64 t.n, .int .i64 t.s, .int .i64 t.r] := by rw [← hW2]; exact Blk.new_ (by simp) _ _
  have hzW2 : W2.heap.size = w.heap.size + 3 := by rw [← hW2]; simp
  clear hW2
  have hdef : DefOk W2 [] := fun _ h => by simp at h
  refine' rf_law (gf := 62) (lb := #[.pointer (some ⟨w.heap.size + 2, 0, none⟩)]) rfl (enters_of Try.func62 (by kernel_rfl) rfl) (names_stops 2 (by omega) (w.heap.size + 2) t W2 hBtW2)
    KB.trans (KB.putObj hBtW2.lt) (fun _ => rfl) (AskI w (w.heap.size + 1) (w.heap.size + 2) t [] []) (fun _ _ _ => False)
    (fun pre W W' h k => h.kept hdef.lt hBW2.size k) (fun _ _ _ _ h _ => h) ⟨_, hboxW2, by simpa using OwI.nil _ _, hBW2, hdef, hBtW2⟩ _ ?assignW2 ?bodyW2 ?doneW2 (fun _ _ _ _ _ _ h => h.elim)
  case assignW2 =>
    intro l' x W K hK
    gi_wp2
    exact hK
  case bodyW2 =>
    rintro l' pre x W hW ⟨v', hbx, how, hBx, hdx, hbt⟩ hpl
    have hc1 := hbx.cell
    have hle : (([] : List Int) ++ pre).length < 1000000 := by
      have h1 := names_len t
      simp only [List.length_append, List.length_nil] at *
      omega
    have hle2 : w.heap.size + 1 ≤ (W.alloc (.cells #[.int .i64 x] 3)).heap.size := by have := hbx.lt; simp; omega
    gi_wp2_with (gi_at_builtin; refine app1In (x := x) (g := W.heap.size) (.tmp 7) (.tmp 9) rfl rfl rfl rfl (how.alloc _) (by simp) hle hle2 ?_; intro v1 w1 hown1 hg1; obtain ⟨g', nn, cap', hv1e⟩ := own_form2 hown1 (by simp); subst hv1e; obtain ⟨hv1, hv2, hr2, hk2, hb2⟩ := hbx.appended (n₀ := w.heap.size + 1) (by decide) how (by have := hbx.lt; omega) (Nat.le_refl _) hown1 hg1; have hc2 := hv1.cell; have hf2 := hv1.frozen; have hbt2 := blk_app (G2 := w.heap.size + 1) (v' := .slice (some ⟨g', 0, none⟩) nn cap') hbt (by omega) how (by decide) hg1)
    exact ⟨hk2.from _, Eq.trans hbt2 hbt.symm, _, hv2, by rw [← List.append_assoc]; exact hr2, hBx.trans (hb2.mono (by omega)), hdx.keeps hk2, hbt2⟩
  case doneW2 =>
    rintro D xs W3 hD rfl ⟨vW3, hboxW3, hownW3, hBW3, hdW3, -⟩ hKD
    have hdefW3 : DefOk W3 [D] := by
      intro D' h
      rcases List.mem_cons.1 h with rfl | h
      · exact hKD
      · simp at h
    rw [List.nil_append] at hownW3
    have hne := hboxW3.not_row (by decide) hownW3
    obtain ⟨A6, n6, cap6, hv6⟩ := own_form3 hownW3
    subst hv6
    have hc6 := hboxW3.cell
    have hf6 := hboxW3.frozen
    gi_wp2
    have hdef7 := hdefW3.keeps (KeepsOthers.setCell W3 ⟨w.heap.size + 1, 0, none⟩ (.slice A6 n6 cap6))
    refine rf_ret_list (ds := [D]) (v := .slice A6 n6 cap6) rfl hdef7 (by simp) (fun W' hcells hbel => ?_)
    have hb7 : Boxed W' (w.heap.size + 1) 39 (.slice A6 n6 cap6) := hcells _ _ (hboxW3.set _) rfl
    have hc7 := hb7.cell
    refine ⟨by simp [results, Try.f20, go_sem, hc7], ⟨_, rfl, ?_⟩, ?_⟩
    · exact ((hownW3.set (fun e => hne e.symm) _).cells hcells).mono (by omega)
    · exact (hBW3.setCell (p := ⟨w.heap.size + 1, 0, none⟩) (by simp) _).trans (hbel w.heap.size (by intro D' h; simp at h; omega))
end Go.Proofs.Ytidddeobachjgaa
