/- Slices of ints that a call makes: what it owns, and how one is appended to. -/
import Derived.Test.YtidddeobachjgaaLibP
import Derived.Maps.AppendAt
namespace Go.Proofs.Ytidddeobachjgaa
open Go.RowKit

theorem int_info : (Try.prog.info? 3).map (fun i => (i.zero, i.size, i.bytes)) = some (some (.int .i64 0), 1, 8) := by kernel_rfl

/-- v is a slice of the call's own, of the numbers l. -/
def OwI (w : World) (base : Nat) (v : Value) (l : List Int) : Prop := w.ownsRow base 3 1 v l.length (l.map (Value.int .i64))

section
variable {w w' : World} {base : Nat} {v : Value} {l : List Int}
theorem OwI.nil (w : World) (base : Nat) : OwI w base (.slice none 0 0) [] := World.ownsRow_nil w base _ _
theorem OwI.alloc (h : OwI w base v l) (o : Obj) : OwI (w.alloc o) base v l := World.ownsRow.alloc h o
theorem OwI.lt (h : OwI w base v l) : ∀ k, v.ownBlock = some k → base ≤ k ∧ k < w.heap.size := World.ownsRow.lt h
theorem OwI.mono {b' : Nat} (h : OwI w base v l) (hb : b' ≤ base) : OwI w b' v l := by
  refine ⟨h.1, ?_⟩
  rcases h.2 with h2 | ⟨g, cap, cur, hv, hg, r⟩
  · exact .inl h2
  · exact .inr ⟨g, cap, cur, hv, by omega, r⟩
theorem OwI.below {B : Nat} (h : OwI w base v l) (hb : Below B w w') (hB : w.heap.size ≤ B) : OwI w' base v l := by
  refine ⟨h.1, ?_⟩
  rcases h.2 with h2 | ⟨g, cap, cur, hv, hg, hh, r⟩
  · exact .inl h2
  · have := (Array.getElem?_eq_some_iff.1 hh).1
    exact .inr ⟨g, cap, cur, hv, hg, (hb.block g (by omega)).trans hh, r⟩
theorem OwI.kept {row : Option Nat} (h : OwI w base v l) (hg : w.grownBy w' row) (hne : v.ownBlock = none ∨ v.ownBlock ≠ row) : OwI w' base v l := World.ownsRow.kept h hg hne
theorem OwI.set {p : Addr} (h : OwI w base v l) (hp : v.ownBlock ≠ some p.block) (u : Value) : OwI (w.setCell p u) base v l := by
  refine ⟨h.1, ?_⟩
  rcases h.2 with h2 | ⟨g, cap, cur, hv, hg, hh, r⟩
  · exact .inl h2
  · refine .inr ⟨g, cap, cur, hv, hg, (Below.heap_setCell _ _ _ _ ?_).trans hh, r⟩
    rintro rfl
    exact hp (by rw [hv]; rfl)
theorem OwI.drew (h : OwI w base v l) : OwI w.drew base v l := h
theorem OwI.drewN (h : OwI w base v l) (n : Nat) : OwI (w.drewN n) base v l := h
theorem OwI.form (h : OwI w base v l) : ∃ A cap, v = .slice A l.length cap := by
  rcases h.2 with ⟨h2, h3⟩ | ⟨g, cap, cur, hv, -⟩
  · exact ⟨none, 0, by rw [h2, h3]⟩
  · exact ⟨_, _, hv⟩
theorem OwI.form1 (h : OwI w base v l) (hl : l ≠ []) : ∃ g cap, v = .slice (some ⟨g, 0, none⟩) l.length cap ∧ base ≤ g ∧ g < w.heap.size := by
  rcases h.2 with ⟨h2, h3⟩ | ⟨g, cap, cur, hv, hg, hh, -⟩
  · exact absurd (List.eq_nil_of_length_eq_zero h3) hl
  · exact ⟨g, cap, hv, hg, (Array.getElem?_eq_some_iff.1 hh).1⟩
theorem OwI.rd (h : OwI w base v l) : RdI w w.heap.size v l := by
  rcases h.2 with ⟨h2, h3⟩ | ⟨g, cap, cur, hv, hg, hh, hn, hm, -⟩
  · obtain rfl := List.eq_nil_of_length_eq_zero h3
    exact ⟨none, 0, 0, 0, by rw [h2]; rfl, Nat.le_refl _, by omega, fun h => absurd h (by simp), fun i x hx => by simp at hx⟩
  · refine ⟨_, cap, g, 0, hv, hn, by unfold maxLen at hm; exact hm, fun _ => ⟨rfl, (Array.getElem?_eq_some_iff.1 hh).1⟩, fun i x hx => ⟨_, rfl, fun j u hu => ?_⟩⟩
    have hj : j = 0 := by
      have := (List.getElem?_eq_some_iff.1 hu).1
      simpa using this
    subst hj
    simp only [List.getElem?_cons_zero, Option.some.injEq] at hu
    subst hu
    have hc := World.ownsRow.cells h (g := g) (by rw [hv]; rfl) i (.int .i64 x) (by simp [hx])
    rw [Addr.add_lit] at hc
    simpa using hc
end

section
variable {ops : Array Oper} {rest : List Oper} {o : Oper} {a : Act} {Q : Exit → Act → World → Prop} {w : World} {base g n c : Nat} {v : Value} {l : List Int} {x : Int}
theorem cell_one_new' {w : World} {g : Nat} {u0 : Value} (h : w.cell? ⟨g, 0, none⟩ = some u0) : ∀ j u, [u0][j]? = some u → w.cell? ((⟨g, 0, none⟩ : Addr).add j) = some u := by
  intro j u hj
  match j, hj with
  | 0, hj =>
    simp at hj
    subst hj
    simpa [Addr.add] using h
/-- 'append(s, x)' of one number. -/
theorem app1 (s y : Operand) (hgd : o.guard = none) (ho : o.op = .call { callee := .builtin .append, args := #[s, y], argTypes := #[39, 39] })
    (hs : a.eval s = v) (hy : a.eval y = .slice (some ⟨g, 0, none⟩) 1 1) (hown : OwI w base v l) (hc : w.cell? ⟨g, 0, none⟩ = some (.int .i64 x)) (hl : l.length < 1000000) (hb : base ≤ w.heap.size)
    (h : ∀ v' w', OwI w' base v' (l ++ [x]) → w.grownBy w' v.ownBlock → wpList Try.prog ops Q rest (a.put o.dst v') w') : wpList Try.prog ops Q (o :: rest) a w := by
  obtain ⟨i0, hi, hz0, hz1, hz2⟩ := info_parts int_info
  refine wpList_append_own w hgd s y 39 ho base 3 i0 (.int .i64 0) 1 8 Try.underlying39 hi hz0 hz1 hz2 rfl (by decide) v l.length _ hs hown ⟨g, 0, none⟩ 1 1 [.int .i64 x] hy rfl
    (cell_one_new' hc) (by simp [Value.oneCell']) (by unfold maxLen; omega) (by omega) hb ?_
  intro v' w' h1 h2 _
  exact h v' w' (by simpa [OwI] using h1) h2
end
end Go.Proofs.Ytidddeobachjgaa
