/- A function in which loops over functions stand within loops: the marks that each leaves for the function's end; append in a round. -/
import Derived.Test.YtidddeobachjgaaLibR
import Derived.Test.YtidddeobachjgaaLibI
namespace Go.Proofs.Ytidddeobachjgaa
open Go.RowKit Go.Shelf

def coll (D : Nat) : Deferred := { target := .collected D, args := #[] }
def DefOk (W : World) (ds : List Nat) : Prop := ∀ D ∈ ds, W.heap[D]? = some (.deferred (some []))
theorem DefOk.keeps {W W' : World} {ds : List Nat} (h : DefOk W ds) (k : KeepsOthers W W') : DefOk W' ds := fun D hD => k.same D _ (h D hD) rfl
theorem DefOk.kept {n : Nat} {W W' : World} {ds : List Nat} (h : DefOk W ds) (hn : ∀ D ∈ ds, D < n) (k : Kept n W W') : DefOk W' ds := fun D hD => (k.below.block D (hn D hD)).trans (h D hD)
theorem DefOk.lt {W : World} {ds : List Nat} (h : DefOk W ds) : ∀ D ∈ ds, D < W.heap.size := fun D hD => (Array.getElem?_eq_some_iff.1 (h D hD)).1

theorem rf_ret_list {P : Program} {fn : Func} {R : Ending → World → Prop} {a : Act} {v : Value} {ds : List Nat} : ∀ {W : World}, a.defers = ds.map coll → DefOk W ds → ds.Nodup →
    (∀ W', (∀ (k : Nat) (o : Obj), W.heap[k]? = some o → o.isCells = true → W'.heap[k]? = some o) → (∀ B, (∀ D ∈ ds, B ≤ D) → Below B W W') → (results fn a.tmps).run P W' = .ok v W' ∧ R (.returned v) W') →
    bodyPostM Fence.wide 3 P fn R .ret a W := by
  intro W hd hK hn h
  show LeavesInM Fence.wide 3 P fn a.tmps R a.defers .returning W
  rw [hd]
  clear hd
  induction ds generalizing W with
  | nil =>
    obtain ⟨h1, h2⟩ := h W (fun _ _ h _ => h) (fun B _ => Below.refl _ _)
    exact ⟨_, h1, h2⟩
  | cons D ds ih =>
    obtain ⟨hn1, hn2⟩ := List.nodup_cons.1 hn
    have hD := hK D (by simp)
    refine ⟨by simp, .inl ⟨_, _, rfl, run_takeDeferred hD, ih ?_ hn2 ?_⟩⟩
    · intro D' hD'
      rw [World.putObj_heap_other (by rintro rfl; exact hn1 hD')]
      exact hK D' (by simp [hD'])
    · intro W' hc hb
      refine h W' (fun k o hk ho => hc k o ?_ ho) (fun B hB => ?_)
      · rw [World.putObj_heap_other (by rintro rfl; rw [hD] at hk; cases hk; cases ho)]
        exact hk
      · have hlt := (Array.getElem?_eq_some_iff.1 hD).1
        have hBD := hB D (by simp)
        refine Below.trans (Below.putD (Below.refl _ _) (by omega) hBD _) (hb B fun D' hD' => hB D' (by simp [hD']))

section
variable {w w' : World} {base : Nat} {v : Value} {l : List Int}
theorem OwI.keptK {n : Nat} (h : OwI w base v l) (k : Kept n w w') : OwI w' base v l := by
  refine ⟨h.1, ?_⟩
  rcases h.2 with h2 | ⟨g, cap, cur, hv, hg, hh, r⟩
  · exact .inl h2
  · exact .inr ⟨g, cap, cur, hv, hg, k.cells _ _ hh rfl, r⟩
theorem OwI.cells (h : OwI w base v l) (k : ∀ (g : Nat) (o : Obj), w.heap[g]? = some o → o.isCells = true → w'.heap[g]? = some o) : OwI w' base v l := by
  refine ⟨h.1, ?_⟩
  rcases h.2 with h2 | ⟨g, cap, cur, hv, hg, hh, r⟩
  · exact .inl h2
  · exact .inr ⟨g, cap, cur, hv, hg, k _ _ hh rfl, r⟩
end
section
variable {F : Fence} {m : Nat} {ops : Array Oper} {rest : List Oper} {o : Oper} {a : Act} {Q : Exit → Act → World → Prop} {w : World} {base g : Nat} {v : Value} {l : List Int} {x : Int}
/-- 'append(s, x)' of one number, in a fence. -/
theorem app1In (s y : Operand) (hgd : o.guard = none) (ho : o.op = .call { callee := .builtin .append, args := #[s, y], argTypes := #[39, 39] })
    (hs : a.eval s = v) (hy : a.eval y = .slice (some ⟨g, 0, none⟩) 1 1) (hown : OwI w base v l) (hc : w.cell? ⟨g, 0, none⟩ = some (.int .i64 x)) (hl : l.length < 1000000) (hb : base ≤ w.heap.size)
    (h : ∀ v' w', OwI w' base v' (l ++ [x]) → w.grownBy w' v.ownBlock → wpListIn F m Try.prog ops Q rest (a.put o.dst v') w') : wpListIn F m Try.prog ops Q (o :: rest) a w := by
  obtain ⟨i0, hi, hz0, hz1, hz2⟩ := info_parts int_info
  refine wpListIn_append_own w hgd s y 39 ho base 3 i0 (.int .i64 0) 1 8 Try.underlying39 hi hz0 hz1 hz2 rfl (by decide) v l.length _ hs hown ⟨g, 0, none⟩ 1 1 [.int .i64 x] hy rfl
    (cell_one_new' hc) (by simp [Value.oneCell']) (by unfold maxLen; omega) (by omega) hb ?_
  intro v' w' h1 h2 _
  exact h v' w' (by simpa [OwI] using h1) h2
end
end Go.Proofs.Ytidddeobachjgaa
