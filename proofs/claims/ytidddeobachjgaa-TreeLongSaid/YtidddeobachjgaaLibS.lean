/- Appending one step, one comparison, to a row of the call's own; blocks that a row's growth leaves as they were. -/
import Derived.Test.YtidddeobachjgaaLibO
import Derived.Test.YtidddeobachjgaaTrK
namespace Go.Proofs.Ytidddeobachjgaa
open Go.RowKit

theorem own_of_blk {w : World} {g base n size : Nat} {e : TypeId} {cur : Array Value} (h : Blk w g e cur) (hg : base ≤ g) (hs : cur.size = n * size) (hm : n ≤ maxLen) :
    w.ownsRow base e size (.slice (some ⟨g, 0, none⟩) n n) n cur.toList :=
  ⟨by simpa using hs, .inr ⟨g, n, cur, rfl, hg, h, Nat.le_refl _, hm, hs, by rw [List.take_of_length_le (by simp [hs])]⟩⟩
theorem own_alloc {w : World} {base n size : Nat} {e : TypeId} {v : Value} {xs : List Value} (h : w.ownsRow base e size v n xs) {o : Obj} : (w.alloc o).ownsRow base e size v n xs := World.ownsRow.alloc h o
theorem own_set {w : World} {base n size : Nat} {e : TypeId} {v : Value} {xs : List Value} {p : Addr} (h : w.ownsRow base e size v n xs) (hp : some p.block ≠ v.ownBlock) (u : Value) : (w.setCell p u).ownsRow base e size v n xs := by
  refine ⟨h.1, ?_⟩
  rcases h.2 with h2 | ⟨g, cap, cur, hv, hg, hh, r⟩
  · exact .inl h2
  · refine .inr ⟨g, cap, cur, hv, hg, (Below.heap_setCell _ _ _ _ ?_).trans hh, r⟩
    rintro rfl
    exact hp (by rw [hv]; rfl)
theorem rdc_nil (w : World) : RdC w w.heap.size (.slice none 0 0) [] := (OwC.nil w 0).rd
theorem rds_nil (w : World) : RdS w w.heap.size (.slice none 0 0) [] := (OwP.nil w 0).rd
theorem rdc_blk {w : World} {g n : Nat} {cs : List Cm} (h : Blk w g 36 (cs.flatMap Cm.cells).toArray) (hn : n = cs.length) (h0 : ∀ c ∈ cs, 0 ≤ c.op) (hm : cs.length ≤ 900000) : RdC w w.heap.size (.slice (some ⟨g, 0, none⟩) n n) cs := by
  subst hn
  refine OwC.rd (base := 0) ⟨?_, h0⟩
  have := own_of_blk (base := 0) (n := cs.length) (size := 9) h (Nat.zero_le _) (by simpa using flat_len cm_len cs) (by unfold maxLen; omega)
  simpa using this
theorem Blk.grown {w w' : World} {g : Nat} {t : TypeId} {cs : Array Value} {row : Option Nat} (h : Blk w g t cs) (hb : w.grownBy w' row) (hg : some g ≠ row) : Blk w' g t cs := (hb.block g h.lt hg).trans h
theorem Blk.ne_own {w : World} {g base n size : Nat} {t e : TypeId} {cs : Array Value} {v : Value} {xs : List Value} (h : Blk w g t cs) (ho : w.ownsRow base e size v n xs) (hne : t ≠ e) : some g ≠ v.ownBlock := by
  rcases ho.2 with ⟨rfl, -⟩ | ⟨g2, cap, cur, rfl, -, hh, -⟩
  · simp [Value.ownBlock]
  · simp only [Value.ownBlock, ne_eq, Option.some.injEq]
    rintro rfl
    have := (show w.heap[g]? = _ from h).symm.trans hh
    simp at this
    exact hne this.2
theorem blk_news {w : World} {g : Nat} {t : TypeId} {cs : List Value} (h : Blk w g t cs.toArray) : ∀ j u, cs[j]? = some u → w.cell? ((⟨g, 0, none⟩ : Addr).add j) = some u := by
  intro j u hu
  rw [Addr.add_lit, Nat.zero_add, h.cell j]
  simpa using hu
section
variable {ops : Array Oper} {rest : List Oper} {o : Oper} {a : Act} {Q : Exit → Act → World → Prop} {w : World} {base g : Nat} {v : Value}
theorem app_sp {ps : List (Sp × Value)} {x : Sp × Value} (s y : Operand) (hgd : o.guard = none) (ho : o.op = .call { callee := .builtin .append, args := #[s, y], argTypes := #[22, 22] })
    (hs : a.eval s = v) (hy : a.eval y = .slice (some ⟨g, 0, none⟩) 1 1) (hown : OwR w base v ps) (hb : Blk w g 30 (spc x).toArray) (h1 : x.2.oneCell' = true) (hl : ps.length < 900000) (hbase : base ≤ w.heap.size)
    (h : ∀ v' w', OwR w' base v' (ps ++ [x]) → w.grownBy w' v.ownBlock → (v'.ownBlock = v.ownBlock ∨ v'.ownBlock = some w.heap.size) → wpList Try.prog ops Q rest (a.put o.dst v') w') : wpList Try.prog ops Q (o :: rest) a w := by
  obtain ⟨i0, hi, hz0, hz1, hz2⟩ := info_parts step_info
  refine wpList_append_own_at w hgd s y 22 ho base 30 i0 _ 6 64 Try.underlying22 hi hz0 hz1 hz2 rfl (by decide) v ps.length _ hs hown ⟨g, 0, none⟩ 1 1 (spc x) hy rfl
    (blk_news hb) (by intro u hu; simp [spc] at hu; rcases hu with rfl | rfl | rfl | rfl | rfl | rfl <;> first | rfl | exact h1) (by unfold maxLen; omega) (by omega) hbase ?_
  intro v' w' hw hg _ hat
  exact h v' w' (by simpa [OwR] using hw) hg hat
theorem app_cm {cs : List Cm} {x : Cm} (s y : Operand) (hgd : o.guard = none) (ho : o.op = .call { callee := .builtin .append, args := #[s, y], argTypes := #[28, 28] })
    (hs : a.eval s = v) (hy : a.eval y = .slice (some ⟨g, 0, none⟩) 1 1) (hown : OwC w base v cs) (hb : Blk w g 36 x.cells.toArray) (h0 : 0 ≤ x.op) (hl : cs.length < 900000) (hbase : base ≤ w.heap.size)
    (h : ∀ v' w', OwC w' base v' (cs ++ [x]) → w.grownBy w' v.ownBlock → (v'.ownBlock = v.ownBlock ∨ v'.ownBlock = some w.heap.size) → wpList Try.prog ops Q rest (a.put o.dst v') w') : wpList Try.prog ops Q (o :: rest) a w := by
  obtain ⟨i0, hi, hz0, hz1, hz2⟩ := info_parts cmp_info
  refine wpList_append_own_at w hgd s y 28 ho base 36 i0 _ 9 72 Try.underlying28 hi hz0 hz1 hz2 rfl (by decide) v cs.length _ hs hown.1 ⟨g, 0, none⟩ 1 1 x.cells hy rfl
    (blk_news hb) (by intro u hu; simp [Cm.cells] at hu; rcases hu with rfl | rfl | rfl | rfl | rfl | rfl | rfl | rfl | rfl <;> rfl) (by unfold maxLen; omega) (by omega) hbase ?_
  intro v' w' hw hg _ hat
  exact h v' w' ⟨by simpa using hw, fun c hc => (List.mem_append.1 hc).elim (hown.2 c) fun hc => by rw [List.mem_singleton.1 hc]; exact h0⟩ hg hat
end
end Go.Proofs.Ytidddeobachjgaa
