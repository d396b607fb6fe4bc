/- Appending a slice of comparisons that reads to a row of the call's own; patterns of the call's own that grow by one step, or stay while boxes are written. -/
import Derived.Test.YtidddeobachjgaaLibS
namespace Go.Proofs.Ytidddeobachjgaa
open Go.RowKit

section
variable {P : Program} {w : World} {base size n : Nat} {e t : TypeId} {v : Value} {xs : List Value}
/-- Nothing is appended where nil is. -/
theorem run_app_nil (ht : P.underlying t = some (.slice e)) {i : TypeInfo} (hi : P.info? e = some i) (ty : TypeId) (hown : w.ownsRow base e size v n xs) (c : Nat) : (Builtin.append_ #[t, t] ty #[v, .slice none 0 c]).run P w = .ok v w := by
  rcases hown.2 with ⟨rfl, rfl⟩ | ⟨g, cap, cur, rfl, -, -, hnc, -⟩
  · simp [Builtin.append_, run_underlying ht, sizeOf, typeInfo, hi, Builtin.lenOf, Builtin.firstCells]
  · simp [Builtin.append_, run_underlying ht, sizeOf, typeInfo, hi, Builtin.lenOf, Builtin.firstCells, hnc, storeCells]
end

section
variable {ops : Array Oper} {rest : List Oper} {o : Oper} {a : Act} {Q : Exit → Act → World → Prop} {w : World} {base B : Nat} {v u : Value}
theorem app_cs {cs : List Cm} (s y : Operand) (hgd : o.guard = none) (ho : o.op = .call { callee := .builtin .append, args := #[s, y], argTypes := #[28, 28] })
    (hs : a.eval s = v) (hy : a.eval y = u) (hown : OwC w base v []) (hr : RdC w B u cs) (hl : cs.length < 900000) (hbase : base ≤ w.heap.size)
    (h : ∀ v' w', OwC w' base v' cs → w.grownBy w' v.ownBlock → (v'.ownBlock = v.ownBlock ∨ v'.ownBlock = some w.heap.size) → wpList Try.prog ops Q rest (a.put o.dst v') w') : wpList Try.prog ops Q (o :: rest) a w := by
  obtain ⟨i0, hi, hz0, hz1, hz2⟩ := info_parts cmp_info
  have hop : ∀ c ∈ cs, 0 ≤ c.op := by
    obtain ⟨A, cap, b, off, rfl, h2, h3, h4, h5⟩ := hr
    intro c hc
    obtain ⟨i, hi, rfl⟩ := List.mem_iff_getElem.1 hc
    obtain ⟨vs, ⟨-, ho⟩, -⟩ := h5 i cs[i] (List.getElem?_eq_getElem hi)
    exact ho
  obtain ⟨A, cap, b, off, rfl, h2, h3, h4, h5⟩ := hr
  cases A with
  | none =>
    have hn : cs = [] := by
      rcases Nat.eq_zero_or_pos cs.length with h0 | h0
      · exact List.eq_nil_of_length_eq_zero h0
      · exact absurd (h4 h0).1 (by simp)
    subst hn
    refine wpList_plain hgd fun K hK => ?_
    have hrun := run_app_nil (P := Try.prog) Try.underlying28 hi o.type hown.1 cap
    unfold Oper.wp execOp
    simp only [ho, resolve, invoke, builtin, Sem.run_bind, Sem.run_pure, Result.andThen_ok, List.map_toArray, List.map_cons, List.map_nil, hs, hy, List.length_nil, hrun]
    exact hK _ _ (h v w hown (World.grownBy.refl _ _) (.inl rfl))
  | some ad =>
    have hnews : ∀ j u, (cs.flatMap Cm.cells)[j]? = some u → w.cell? (ad.add j) = some u := by
      intro j u hu
      have h0 : 0 < cs.length := by
        have := (List.getElem?_eq_some_iff.1 hu).1
        rw [flat_len cm_len] at this
        omega
      obtain ⟨e, -⟩ := h4 h0
      obtain rfl := Option.some.inj e
      exact news_cmp h5 j u hu
    refine wpList_append_own_at w hgd s y 28 ho base 36 i0 _ 9 72 Try.underlying28 hi hz0 hz1 hz2 rfl (by decide) v 0 _ hs hown.1 ad cs.length cap (cs.flatMap Cm.cells) hy (flat_len cm_len cs) hnews (cm_one cs)
      (by unfold maxLen; omega) (by omega) hbase ?_
    intro v' w' hw hg _ hat
    exact h v' w' ⟨by simpa using hw, hop⟩ hg hat
end

section
variable {w w' : World} {base : Nat} {v v' : Value} {ps : List (Sp × Value)} {x : Sp × Value}
theorem OwC.alloc_ {cs : List Cm} (h : OwC w base v cs) (o : Obj) : OwC (w.alloc o) base v cs := ⟨own_alloc h.1, h.2⟩
theorem OwC.set_ {cs : List Cm} {p : Addr} (h : OwC w base v cs) (hp : some p.block ≠ v.ownBlock) (u : Value) : OwC (w.setCell p u) base v cs := ⟨own_set h.1 hp u, h.2⟩
theorem OwP.alloc_ (h : OwP w base v ps) (o : Obj) : OwP (w.alloc o) base v ps := ⟨own_alloc h.row, fun x hx => (h.cmps x hx).alloc_ o, h.apart⟩
/-- A box is written that is no row of the pattern's. -/
theorem OwP.box {g : Nat} {t : TypeId} {cs : Array Value} {j : Nat} (h : OwP w base v ps) (hB : Blk w g t cs) (h1 : t ≠ 30) (h2 : t ≠ 36) (u : Value) : OwP (w.setCell ⟨g, j, none⟩ u) base v ps :=
  ⟨own_set h.row (hB.ne_own h.row h1) u, fun x hx => (h.cmps x hx).set_ (hB.ne_own (h.cmps x hx).1 h2) u, h.apart⟩
/-- What is there of the pattern's comparisons stays while the row of steps grows. -/
theorem OwP.push (h : OwP w base v ps) (hx : OwC w base x.2 x.1.cmps) (hap : ∀ y ∈ ps, y.2.ownBlock = none ∨ y.2.ownBlock ≠ x.2.ownBlock) (hrow : OwR w' base v' (ps ++ [x])) (hg : w.grownBy w' v.ownBlock) : OwP w' base v' (ps ++ [x]) := by
  refine ⟨hrow, fun y hy => ?_, ?_⟩
  · rcases List.mem_append.1 hy with hm | hm
    · exact (h.cmps y hm).kept hg (own_ne (h.cmps y hm).1 h.row (by decide))
    · rw [List.mem_singleton.1 hm]
      exact hx.kept hg (own_ne hx.1 h.row (by decide))
  · exact List.pairwise_append.2 ⟨h.apart, List.pairwise_singleton _ _, fun a ha b hb => by rw [List.mem_singleton.1 hb]; exact hap a ha⟩
theorem OwP.ownlt (h : OwP w base v ps) : ∀ k, v.ownBlock = some k → base ≤ k ∧ k < w.heap.size := World.ownsRow.lt h.row
theorem OwP.cmplt (h : OwP w base v ps) {y : Sp × Value} (hy : y ∈ ps) : ∀ k, y.2.ownBlock = some k → base ≤ k ∧ k < w.heap.size := World.ownsRow.lt (h.cmps y hy).1
/-- A comparison row that lies above all of the pattern's is apart from them. -/
theorem OwP.apart_new {n : Nat} {u : Value} {cs : List Cm} (h : OwP w base v ps) (hn : w.heap.size ≤ n) (hu : OwC w' n u cs) : ∀ y ∈ ps, y.2.ownBlock = none ∨ y.2.ownBlock ≠ u.ownBlock := by
  intro y hy
  cases hb : y.2.ownBlock with
  | none => exact .inl rfl
  | some k =>
    right
    intro e
    have h1 := h.cmplt hy k hb
    have h2 := World.ownsRow.lt hu.1 k e.symm
    omega
end
end Go.Proofs.Ytidddeobachjgaa
