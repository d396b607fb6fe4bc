/- Several texts of one proof: Appending a slice of comparisons that reads to a row of the call's own; patterns of the call's own that grow by one step, or stay while boxes are written. | A block that a round leaves as it was: the word in which iterators over memory speak. | The names that the reference tells; 'append(a, b...)' of two rows of numbers of the call's own, of which the first has no room behind it; a drawn region that does so. | A drawn region whose operations read, make rows of their own, or call what makes such rows: a table tells what each gives; one walk in the order of the text. -/
import Derived.Test.YtmmbblfmhcegcaaGreatM04
import Derived.Test.YtmmbblfmhcegcaaGreatM01
import Derived.Test.YtmmbblfmhcegcaaGreatM03

namespace Go.Proofs.YtmmbblfmhcegcaaGreat
open Go.RowKit

section
variable {P : Program} {w : World} {base size n : Nat} {e t : TypeId} {v : Value} {xs : List Value}
/-- Nothing is appended where nil is. -/
theorem run_app_nil (ht : P.underlying t = some (.slice e)) {i : TypeInfo} (hi : P.info? e = some i) (ty : TypeId) (hown : w.ownsRow base e size v n xs) (c : Nat) : (Builtin.append_ #[t, t] ty #[v, .slice none 0 c]).run P w = .ok v w := by
  rcases hown.2 with ⟨rfl, rfl⟩ | ⟨g, cap, cur, rfl, -, -, hnc, -⟩
  · simp [Builtin.append_, run_underlying ht, sizeOf, typeInfo, hi, Builtin.lenOf, Builtin.firstCells]
  · simp [Builtin.append_, run_underlying ht, sizeOf, typeInfo, hi, Builtin.lenOf, Builtin.firstCells, hnc, storeCells]
end

section
variable {ops : Array Oper} {rest : List Oper} {o : Oper} {a : Act} {Q : Exit → Act → World → Prop} {w : World} {base B : Nat} {v u : Value}
theorem app_cs {cs : List Cm} (s y : Operand) (hgd : o.guard = none) (ho : o.op = .call { callee := .builtin .append, args := #[s, y], argTypes := #[43, 43] })
    (hs : a.eval s = v) (hy : a.eval y = u) (hown : OwC w base v []) (hr : RdC w B u cs) (hl : cs.length < 900000) (hbase : base ≤ w.heap.size)
    (h : ∀ v' w', OwC w' base v' cs → w.grownBy w' v.ownBlock → (v'.ownBlock = v.ownBlock ∨ v'.ownBlock = some w.heap.size) → wpList Tryz.prog ops Q rest (a.put o.dst v') w') : wpList Tryz.prog ops Q (o :: rest) a w := by
  obtain ⟨i0, hi, hz0, hz1, hz2⟩ := info_parts cmp_info
  have hop : ∀ c ∈ cs, 0 ≤ c.op := by
    obtain ⟨A, cap, b, off, rfl, h2, h3, h4, h5⟩ := hr
    intro c hc
    obtain ⟨i, hi, rfl⟩ := List.mem_iff_getElem.1 hc
    obtain ⟨vs, ⟨-, ho⟩, -⟩ := h5 i cs[i] (List.getElem?_eq_getElem hi)
    exact ho
  obtain ⟨A, cap, b, off, rfl, h2, h3, h4, h5⟩ := hr
  cases A with
  | none =>
    have hn : cs = [] := by
      rcases Nat.eq_zero_or_pos cs.length with h0 | h0
      · exact List.eq_nil_of_length_eq_zero h0
      · exact absurd (h4 h0).1 (by simp)
    subst hn
    refine wpList_plain hgd fun K hK => ?_
    have hrun := run_app_nil (P := Tryz.prog) Tryz.underlying43 hi o.type hown.1 cap
    unfold Oper.wp execOp
    simp only [ho, resolve, invoke, builtin, Sem.run_bind, Sem.run_pure, Result.andThen_ok, List.map_toArray, List.map_cons, List.map_nil, hs, hy, List.length_nil, hrun]
    exact hK _ _ (h v w hown (World.grownBy.refl _ _) (.inl rfl))
  | some ad =>
    have hnews : ∀ j u, (cs.flatMap Cm.cells)[j]? = some u → w.cell? (ad.add j) = some u := by
      intro j u hu
      have h0 : 0 < cs.length := by
        have := (List.getElem?_eq_some_iff.1 hu).1
        rw [flat_len cm_len] at this
        omega
      obtain ⟨e, -⟩ := h4 h0
      obtain rfl := Option.some.inj e
      exact news_cmp h5 j u hu
    refine wpList_append_own_at w hgd s y 43 ho base 78 i0 _ 9 72 Tryz.underlying43 hi hz0 hz1 hz2 rfl (by decide) v 0 _ hs hown.1 ad cs.length cap (cs.flatMap Cm.cells) hy (flat_len cm_len cs) hnews (cm_one cs)
      (by unfold maxLen; omega) (by omega) hbase ?_
    intro v' w' hw hg _ hat
    exact h v' w' ⟨by simpa using hw, hop⟩ hg hat
end

section
variable {w w' : World} {base : Nat} {v v' : Value} {ps : List (Sp × Value)} {x : Sp × Value}
theorem OwC.alloc_ {cs : List Cm} (h : OwC w base v cs) (o : Obj) : OwC (w.alloc o) base v cs := ⟨own_alloc h.1, h.2⟩
theorem OwC.set_ {cs : List Cm} {p : Addr} (h : OwC w base v cs) (hp : some p.block ≠ v.ownBlock) (u : Value) : OwC (w.setCell p u) base v cs := ⟨own_set h.1 hp u, h.2⟩
theorem OwP.alloc_ (h : OwP w base v ps) (o : Obj) : OwP (w.alloc o) base v ps := ⟨own_alloc h.row, fun x hx => (h.cmps x hx).alloc_ o, h.apart⟩
/-- A box is written that is no row of the pattern's. -/
theorem OwP.box {g : Nat} {t : TypeId} {cs : Array Value} {j : Nat} (h : OwP w base v ps) (hB : Blk w g t cs) (h1 : t ≠ 45) (h2 : t ≠ 78) (u : Value) : OwP (w.setCell ⟨g, j, none⟩ u) base v ps :=
  ⟨own_set h.row (hB.ne_own h.row h1) u, fun x hx => (h.cmps x hx).set_ (hB.ne_own (h.cmps x hx).1 h2) u, h.apart⟩
/-- What is there of the pattern's comparisons stays while the row of steps grows. -/
theorem OwP.push (h : OwP w base v ps) (hx : OwC w base x.2 x.1.cmps) (hap : ∀ y ∈ ps, y.2.ownBlock = none ∨ y.2.ownBlock ≠ x.2.ownBlock) (hrow : OwR w' base v' (ps ++ [x])) (hg : w.grownBy w' v.ownBlock) : OwP w' base v' (ps ++ [x]) := by
  refine ⟨hrow, fun y hy => ?_, ?_⟩
  · rcases List.mem_append.1 hy with hm | hm
    · exact (h.cmps y hm).kept hg (own_ne (h.cmps y hm).1 h.row (by decide))
    · rw [List.mem_singleton.1 hm]
      exact hx.kept hg (own_ne hx.1 h.row (by decide))
  · exact List.pairwise_append.2 ⟨h.apart, List.pairwise_singleton _ _, fun a ha b hb => by rw [List.mem_singleton.1 hb]; exact hap a ha⟩
theorem OwP.ownlt (h : OwP w base v ps) : ∀ k, v.ownBlock = some k → base ≤ k ∧ k < w.heap.size := World.ownsRow.lt h.row
theorem OwP.cmplt (h : OwP w base v ps) {y : Sp × Value} (hy : y ∈ ps) : ∀ k, y.2.ownBlock = some k → base ≤ k ∧ k < w.heap.size := World.ownsRow.lt (h.cmps y hy).1
/-- A comparison row that lies above all of the pattern's is apart from them. -/
theorem OwP.apart_new {n : Nat} {u : Value} {cs : List Cm} (h : OwP w base v ps) (hn : w.heap.size ≤ n) (hu : OwC w' n u cs) : ∀ y ∈ ps, y.2.ownBlock = none ∨ y.2.ownBlock ≠ u.ownBlock := by
  intro y hy
  cases hb : y.2.ownBlock with
  | none => exact .inl rfl
  | some k =>
    right
    intro e
    have h1 := h.cmplt hy k hb
    have h2 := World.ownsRow.lt hu.1 k e.symm
    omega
end
end Go.Proofs.YtmmbblfmhcegcaaGreat

namespace Go.Proofs.YtmmbblfmhcegcaaGreat
open Go.RowKit Go.Shelf

/-- Block b is in B as it is in A. -/
def KB (b : Nat) (A B : World) : Prop := B.heap[b]? = A.heap[b]?
theorem KB.refl (b : Nat) (A : World) : KB b A A := rfl
theorem KB.trans {b : Nat} {A B C : World} (h : KB b A B) (k : KB b B C) : KB b A C := Eq.trans k h
theorem KB.of_below {b n : Nat} {A B : World} (h : Below n A B) (hb : b < n) : KB b A B := h.block b hb
theorem KB.cell {b : Nat} {A B : World} (h : KB b A B) (o : Nat) : B.cell? ⟨b, o, none⟩ = A.cell? ⟨b, o, none⟩ := World.cell?_of_block (w := A) (a := ⟨b, o, none⟩) h
theorem KB.putObj {b : Nat} {w : World} (hb : b < w.heap.size) (W : World) (l : Nat) (o o' : Obj) (hl : w.heap.size ≤ l) (_ : W.heap[l]? = some o) (_ : o.isCells = false) (_ : o.isWalk = false) : KB b W (W.putObj l o') :=
  World.putObj_heap_other (by omega)
theorem KB.setCell {b : Nat} {W : World} {p : Addr} (hp : b ≠ p.block) (u : Value) : KB b W (W.setCell p u) := Below.heap_setCell _ _ _ _ hp
theorem KB.alloc {b : Nat} {W : World} (h : b < W.heap.size) (o : Obj) : KB b W (W.alloc o) := Below.heap_alloc _ _ _ h

end Go.Proofs.YtmmbblfmhcegcaaGreat

namespace Go.Proofs.YtmmbblfmhcegcaaGreat
open Go.RowKit

/-- v is a row of the call's own, of the numbers l, with no room behind them. -/
def FullV (l : List Int) (v : Value) : Prop := (v = .slice none 0 0 ∧ l = []) ∨ ∃ g, v = .slice (some ⟨g, 0, none⟩) l.length l.length
def OwF (w : World) (base : Nat) (v : Value) (l : List Int) : Prop := (v = .slice none 0 0 ∧ l = []) ∨ ∃ g, v = .slice (some ⟨g, 0, none⟩) l.length l.length ∧ base ≤ g ∧ Blk w g 3 (l.map (Value.int .i64)).toArray
section
variable {w w' : World} {base : Nat} {v : Value} {l m : List Int}
theorem OwF.ow (h : OwF w base v l) (hl : l.length ≤ maxLen) : OwI w base v l := by
  rcases h with ⟨rfl, rfl⟩ | ⟨g, rfl, hg, hb⟩
  · exact OwI.nil _ _
  · refine ⟨by simp, .inr ⟨g, l.length, _, rfl, hg, hb, Nat.le_refl _, hl, by simp, List.take_of_length_le (by simp)⟩⟩
theorem OwF.full (h : OwF w base v l) : FullV l v := by
  rcases h with ⟨rfl, rfl⟩ | ⟨g, rfl, hg, hb⟩
  · exact .inl ⟨rfl, rfl⟩
  · exact .inr ⟨g, rfl⟩
theorem OwF.below {B : Nat} (h : OwF w base v l) (hb : Below B w w') (hB : w.heap.size ≤ B) : OwF w' base v l := by
  rcases h with h | ⟨g, rfl, hg, hk⟩
  · exact .inl h
  · exact .inr ⟨g, rfl, hg, hk.below hb (by have := hk.lt; omega)⟩
theorem OwF.mono {b' : Nat} (h : OwF w base v l) (hb : b' ≤ base) : OwF w b' v l := by
  rcases h with h | ⟨g, rfl, hg, hk⟩
  · exact .inl h
  · exact .inr ⟨g, rfl, by omega, hk⟩
theorem fullV_some (l : List Int) : ∃ v, FullV l v := ⟨_, .inr ⟨0, rfl⟩⟩

/-- What there is of a slice of numbers that reads. -/
theorem RdI.news (h : RdI w w.heap.size v m) (h0 : 0 < m.length) : ∃ a cap, v = .slice (some a) m.length cap ∧ ∀ j u, (m.map (Value.int .i64))[j]? = some u → w.cell? (a.add j) = some u := by
  obtain ⟨A, cap, b, off, rfl, h2, h3, h4, h5⟩ := h
  obtain ⟨rfl, hb⟩ := h4 h0
  refine ⟨⟨b, off, none⟩, cap, rfl, fun j u hu => ?_⟩
  rw [List.getElem?_map, Option.map_eq_some_iff] at hu
  obtain ⟨x, hx, rfl⟩ := hu
  obtain ⟨cs, rfl, hat⟩ := h5 j x hx
  rw [Addr.add_lit]
  have := hat.c1
  simpa using this

theorem run_app_full (ty : TypeId) (hv : OwF w base v l) {u : Value} (hu : RdI w w.heap.size u m) (hl : l.length + m.length ≤ 1000000) (hbase : base ≤ w.heap.size) :
    ∃ v' w', (Builtin.append_ #[28, 28] ty #[v, u]).run Tryz.prog w = .ok v' w' ∧ OwI w' base v' (l ++ m) ∧ Below w.heap.size w w' := by
  obtain ⟨i0, hi, hz0, hz1, hz2⟩ := info_parts int_info
  by_cases h0 : m.length = 0
  · obtain rfl := List.eq_nil_of_length_eq_zero h0
    obtain ⟨A, cap, b, off, rfl, h2, h3, h4, h5⟩ := hu
    refine ⟨v, w, ?_, by simpa using hv.ow (by unfold maxLen; omega), Below.refl _ _⟩
    cases A with
    | none => exact run_app_nil Tryz.underlying28 hi ty (hv.ow (by unfold maxLen; omega)) cap
    | some ad =>
      rcases hv with ⟨rfl, rfl⟩ | ⟨g, rfl, hg, hb⟩
      · simp [Builtin.append_, run_underlying Tryz.underlying28, sizeOf, typeInfo, hi, Builtin.lenOf, Builtin.firstCells, loadCells, loadCellsFrom]
      · simp [Builtin.append_, run_underlying Tryz.underlying28, sizeOf, typeInfo, hi, Builtin.lenOf, Builtin.firstCells, loadCells, loadCellsFrom, storeCells]
  · obtain ⟨a, cap, rfl, hn⟩ := hu.news (by omega)
    rcases hv with ⟨rfl, rfl⟩ | ⟨g, rfl, hg, hb⟩
    · obtain ⟨v', w', hr, h2, h3, h4, h5⟩ := run_append_own_at (P := Tryz.prog) w base 28 ty 3 i0 (.int .i64 0) 1 8 Tryz.underlying28 hi hz0 hz1 hz2 rfl (by decide) _ 0 [] (World.ownsRow_nil w base _ _) a m.length cap (m.map (Value.int .i64)) (by simp) hn
        (by intro u hu; obtain ⟨x, -, rfl⟩ := List.mem_map.1 hu; rfl) (by unfold maxLen; omega) (by omega) hbase
      exact ⟨v', w', hr, by simpa [OwI] using h2, h3.os, h3.tape, h3.output, h3.size, fun k hk => h3.block k hk (by simp [Value.ownBlock])⟩
    · have holds : ∀ j u, (l.map (Value.int .i64))[j]? = some u → w.cell? ((⟨g, 0, none⟩ : Addr).add j) = some u := by
        intro j u hu
        rw [Addr.add_lit, Nat.zero_add, hb.cell j]
        simpa using hu
      have hr := run_append_grow (P := Tryz.prog) w 28 ty 3 i0 (.int .i64 0) Tryz.underlying28 hi hz0 ⟨g, 0, none⟩ l.length l.length (l.map (Value.int .i64)) (by simp [hz1]) holds a m.length cap (m.map (Value.int .i64)) (by simp [hz1]) hn (by omega) (by omega)
        (growslice_fits (by omega) (by rw [hz2]; omega))
      refine ⟨_, _, hr, ⟨by simp, .inr ⟨w.heap.size, _, _, by rw [List.length_append], hbase, heap_alloc_new w.drew _, ?_, ?_, ?_, ?_⟩⟩, ?_⟩
      · simp only [List.length_append]; exact grownCap_ge w (l.length + m.length) l.length 3
      · exact grownCap_le_maxLen w (l.length + m.length) l.length 3 (by unfold maxLen; omega)
      · have hge := grownCap_ge w (l.length + m.length) l.length 3
        have e0 : (Value.int .i64 0).cells.size = 1 := rfl
        simp only [Array.size_append, List.size_toArray, List.length_map, size_zeroCells, e0, Nat.mul_one]
        omega
      · have e1 : ((l ++ m).map (Value.int .i64)).length = (l ++ m).length * 1 := by simp
        rw [← e1, Array.toList_append, Array.toList_append, ← List.map_append]
        exact List.take_left
      · exact ((Below.refl _ _).drew).alloc (Nat.le_refl _) _
end

set_option maxRecDepth 100000 in
theorem rnames_any (t : Tm) (w : World) : Calls Tryz.prog 91 #[tmV t] w fun e w' => (∃ v, e = .returned v ∧ OwF w' w.heap.size v t.names) ∧ Below w.heap.size w w' := by
  obtain ⟨k, n, s, r⟩ := t
  by_cases h0 : k = 0
  · subst h0
    go_enter Tryz.func91, Tryz.ntmps91
    go_wp2
    go_ret
    exact ⟨⟨_, rfl, .inl ⟨rfl, rfl⟩⟩, (Below.refl _ _).alloc (Nat.le_refl _) _⟩
  have h0' : (k == 0) = false := by simpa using h0
  by_cases h5 : k = 5
  · subst h5
    go_enter Tryz.func91, Tryz.ntmps91
    go_wp2
    go_ret
    exact ⟨⟨_, rfl, .inr ⟨_, rfl, by simp, Blk.new_ (by simp) _ _⟩⟩, ((Below.refl _ _).alloc (Nat.le_refl _) _).alloc (by simp) _⟩
  have h5' : (k == 5) = false := by simpa using h5
  by_cases h6 : k = 6
  · subst h6
    go_enter Tryz.func91, Tryz.ntmps91
    go_wp2
    go_ret
    exact ⟨⟨_, rfl, .inr ⟨_, rfl, by simp, Blk.new_ (by simp) _ _⟩⟩, ((Below.refl _ _).alloc (Nat.le_refl _) _).alloc (by simp) _⟩
  have h6' : (k == 6) = false := by simpa using h6
  have hn : Tm.names ⟨k, n, s, r⟩ = [s] := by simp [Tm.names, Tm.two, h0, h5, h6]
  rw [hn]
  clear h0 h5 h6
  go_enter Tryz.func91, Tryz.ntmps91
  go_wp2
  go_ret
  exact ⟨⟨_, rfl, .inr ⟨_, rfl, by simp, Blk.new_ (by simp) _ _⟩⟩, ((Below.refl _ _).alloc (Nat.le_refl _) _).alloc (by simp) _⟩

/-! ### the region 'all := append(Names(c.L), Names(c.R)...)' -/
def pfTwo (G : Nat) (l r : List Int) (i1 i2 i3 : Nat) (k : Nat) : Option ((Value → Prop) × ((Nat → Value) → Value → World → Prop)) :=
  if k = i1 then some (FullV l, fun _ v w => OwF w G v l)
  else if k = i2 then some (FullV r, fun _ v w => OwF w G v r)
  else if k = i3 then some (fun _ => True, fun _ v w => OwI w G v (l ++ r))
  else none
def dTwo (i1 i2 i3 : Nat) (k : Nat) : List Nat := if k = i3 then [i1, i2] else []
theorem wp_region_two {id : Nat} {Q : Exit → Act → World → Prop} {a : Act} {w : World} {ops : List Oper} (l r : List Int) (i1 i2 i3 : Nat) (hm : Tryz.prog.follows .mixedOrders = true) (hB : relB ops.toArray (dTwo i1 i2 i3) = true)
    (h : wpRel Tryz.prog ops.toArray (fun w' => ∃ n, w' = grown w.heap.size w n) (fun w w' => Below w.heap.size w w') (pfTwo w.heap.size l r i1 i2 i3) (dTwo i1 i2 i3) (fun a' w' => Q .normal a' w') ops 0 (fun _ => undef) [] a) :
    (Code.region id ops.toArray true).wp Tryz.prog Q a w := by
  refine wp_region_rel _ _ (pfTwo w.heap.size l r i1 i2 i3) (dTwo i1 i2 i3) hm hB ?_ ?_ ?_ ⟨w.drew, (grown_of ((Below.refl _ _).drew) (Nat.le_refl _)).symm⟩ h
  · intro k R hR vs vs' v w hd hr
    unfold pfTwo at hR
    split at hR
    · cases hR; exact hr
    · split at hR
      · cases hR; exact hr
      · split at hR
        · cases hR; exact hr
        · cases hR
  · intro k R hR
    unfold pfTwo at hR
    split at hR
    · cases hR; exact fullV_some _
    · split at hR
      · cases hR; exact fullV_some _
      · split at hR
        · cases hR; exact ⟨undef, trivial⟩
        · cases hR
  · intro k R hR vs v w w' hr _ hE
    unfold pfTwo at hR
    split at hR
    · cases hR; exact OwF.below hr hE (Nat.le_refl _)
    · split at hR
      · cases hR; exact OwF.below hr hE (Nat.le_refl _)
      · split at hR
        · cases hR; exact OwI.below hr hE (Nat.le_refl _)
        · cases hR
/-- The call of such a region. -/
theorem calls_two (t : Tm) {G : Nat} {W x : World} (hG : G ≤ W.heap.size) :
    Calls Tryz.prog 91 #[tmV t] (grown G W x) fun e w'' => ∃ v, e = .returned v ∧ (∃ n, w'' = grown G W n) ∧ Below (grown G W x).heap.size (grown G W x) w'' ∧ FullV t.names v ∧ OwF w'' G v t.names :=
  (rnames_any t _).mono fun _ w'' ⟨⟨v, he, ho⟩, hb⟩ =>
    ⟨v, he, ⟨w'', (grown_of ((grown_below G W x).trans (hb.mono (grown_size G W x hG))) (Nat.le_trans (grown_size G W x hG) hb.size)).symm⟩, hb, ho.full, ho.mono (grown_size G W x hG)⟩
/-- The append of such a region. -/
theorem wpRel_app_two {ops : Array Oper} {G : Nat} {W : World} {l r : List Int} {i1 i2 k : Nat} {Q : Act → World → Prop} {o : Oper} {rest : List Oper} {vs : Nat → Value} {Γ : List (Nat × (World → Prop))} {a : Act} {v1 v2 : Value} (s y : Operand)
    (hG : G ≤ W.heap.size) (hgd : o.guard = none) (ho : o.op = .call { callee := .builtin .append, args := #[s, y], argTypes := #[28, 28] }) (hs : a.eval s = v1) (hy : a.eval y = v2) (hl : l.length + r.length ≤ 1000000) (h1 : i1 ≠ k) (h2 : i2 ≠ k)
    (hg1 : (i1, fun w => OwF w G v1 l) ∈ Γ) (hg2 : (i2, fun w => OwF w G v2 r) ∈ Γ)
    (h : ∀ v, wpRel Tryz.prog ops (fun w' => ∃ n, w' = grown G W n) (fun w w' => Below w.heap.size w w') (pfTwo G l r i1 i2 k) (dTwo i1 i2 k) Q rest (k + 1) (upd vs k v) ((k, fun w => OwI w G v (l ++ r)) :: Γ) (a.put o.dst v)) :
    wpRel Tryz.prog ops (fun w' => ∃ n, w' = grown G W n) (fun w w' => Below w.heap.size w w') (pfTwo G l r i1 i2 k) (dTwo i1 i2 k) Q (o :: rest) k vs Γ a := by
  have hp : pfTwo G l r i1 i2 k k = some (fun _ => True, fun _ v w => OwI w G v (l ++ r)) := by
    unfold pfTwo
    rw [if_neg (Ne.symm h1), if_neg (Ne.symm h2), if_pos rfl]
  unfold wpRel
  rw [hp]
  have hw : Region.wanted o (yielded ops a.tmps) = true := by simp [Region.wanted, hgd]
  rw [if_pos hw]
  refine ⟨fun w hC hΓ => ?_, fun v _ => h v⟩
  obtain ⟨n, rfl⟩ := hC
  have f1 : OwF (grown G W n) G v1 l := hΓ _ hg1 (by simp [dTwo])
  have f2 : OwF (grown G W n) G v2 r := hΓ _ hg2 (by simp [dTwo])
  have hz := grown_size G W n hG
  obtain ⟨v', w', hr, ho', hb⟩ := run_app_full o.type f1 (f2.ow (by unfold maxLen; omega)).rd hl hz
  unfold execOp
  simp only [ho, resolve, invoke, builtin, Sem.run_bind, Sem.run_pure, Result.andThen_ok, List.map_toArray, List.map_cons, List.map_nil, hs, hy, hr]
  exact ⟨⟨w', (grown_of ((grown_below G W n).trans (hb.mono hz)) (Nat.le_trans hz hb.size)).symm⟩, hb, trivial, ho'⟩
end Go.Proofs.YtmmbblfmhcegcaaGreat

namespace Go.Proofs.YtmmbblfmhcegcaaGreat
open Go.RowKit

/-- What is known of what an operation gives: the value's form; what stands in memory. -/
abbrev Fact := (Value → Prop) × (Value → World → Prop)
structure FactOk (f : Fact) : Prop where
  inh : ∃ v, f.1 v
  stable : ∀ v w w', f.2 v w → Below w.heap.size w w' → f.2 v w'
def pfT (L : List (Nat × Fact)) (k : Nat) : Option ((Value → Prop) × ((Nat → Value) → Value → World → Prop)) := (L.lookup k).map fun f => (f.1, fun _ v w => f.2 v w)
def dT : List (Nat × List Nat) → Nat → List Nat
  | [], _ => []
  | (j, l) :: D, k => if k = j then l else dT D k
def ListV (l : List Int) (v : Value) : Prop := ∃ A cap, v = .slice A l.length cap
def valF (c : Value) : Fact := (fun v => v = c, fun _ _ => True)
def rowF (G : Nat) (l : List Int) : Fact := (ListV l, fun v w => OwI w G v l)
theorem valF_ok (c : Value) : FactOk (valF c) := ⟨⟨c, rfl⟩, fun _ _ _ _ _ => trivial⟩
theorem rowF_ok (G : Nat) (l : List Int) : FactOk (rowF G l) := ⟨⟨_, none, 0, rfl⟩, fun _ _ _ h hb => OwI.below h hb (Nat.le_refl _)⟩
/-- A row of numbers without room behind it. -/
def fullF (G : Nat) (l : List Int) : Fact := (FullV l, fun v w => OwF w G v l)
theorem fullF_ok (G : Nat) (l : List Int) : FactOk (fullF G l) := ⟨fullV_some l, fun _ _ _ h hb => OwF.below h hb (Nat.le_refl _)⟩
/-- A pattern of the call's own. -/
def patF (G : Nat) (p : List Sp) (win : Int) : Fact := (fun v => ∃ sv, v = ptV sv win, fun v w => ∃ sv ps, v = ptV sv win ∧ OwP w G sv ps ∧ ps.map (·.1) = p)
theorem patF_ok (G : Nat) (p : List Sp) (win : Int) : FactOk (patF G p win) := ⟨⟨_, .slice none 0 0, rfl⟩, fun _ _ _ ⟨sv, ps, e, h, hp⟩ hb => ⟨sv, ps, e, h.below hb (Nat.le_refl _), hp⟩⟩

theorem lookup_mem {α : Type} {L : List (Nat × α)} {k : Nat} {f : α} (h : L.lookup k = some f) : ∃ j, (j, f) ∈ L := by
  induction L with
  | nil => cases h
  | cons p L ih =>
    obtain ⟨j, g⟩ := p
    simp only [List.lookup] at h
    split at h
    · cases h; exact ⟨j, by simp⟩
    · obtain ⟨i, hi⟩ := ih h; exact ⟨i, by simp [hi]⟩

theorem wp_region_tab {P : Program} {id : Nat} {Q : Exit → Act → World → Prop} {a : Act} {w : World} {ops : List Oper} (G : Nat) (hG : G ≤ w.heap.size) (L : List (Nat × Fact)) (D : List (Nat × List Nat)) (hm : P.follows .mixedOrders = true) (hB : relB ops.toArray (dT D) = true) (hok : ∀ p ∈ L, FactOk p.2)
    (h : wpRel P ops.toArray (fun w' => ∃ n, w' = grown G w n) (fun w w' => Below w.heap.size w w') (pfT L) (dT D) (fun a' w' => Q .normal a' w') ops 0 (fun _ => undef) [] a) :
    (Code.region id ops.toArray true).wp P Q a w := by
  refine wp_region_rel _ _ (pfT L) (dT D) hm hB ?_ ?_ ?_ ⟨w.drew, (grown_of ((Below.refl _ _).drew) hG).symm⟩ h
  · intro k R hR vs vs' v w hd hr
    obtain ⟨f, -, rfl⟩ := Option.map_eq_some_iff.1 hR
    exact hr
  · intro k R hR
    obtain ⟨f, hf, rfl⟩ := Option.map_eq_some_iff.1 hR
    obtain ⟨j, hj⟩ := lookup_mem hf
    exact (hok _ hj).inh
  · intro k R hR vs v w w' hr _ hE
    obtain ⟨f, hf, rfl⟩ := Option.map_eq_some_iff.1 hR
    obtain ⟨j, hj⟩ := lookup_mem hf
    exact (hok _ hj).stable _ _ _ hr hE

section
variable {P : Program} {ops : Array Oper} {C : World → Prop} {E : World → World → Prop} {L : List (Nat × Fact)} {D : Nat → List Nat} {Q : Act → World → Prop}
  {o : Oper} {l : List Oper} {k : Nat} {vs : Nat → Value} {Γ : List (Nat × (World → Prop))} {a : Act}
theorem wpTab_eff (f : Fact) (hp : L.lookup k = some f)
    (h : ∀ K : Value → Act → Prop, (∀ v a', wpRel P ops C E (pfT L) D Q l (k + 1) (upd vs k v) ((k, f.2 v) :: Γ) a' → K v a') →
      if Region.wanted o (yielded ops a.tmps) = true then (∀ w, C w → (∀ p ∈ Γ, p.1 ∈ D k → p.2 w) → relEff P C E (fun v w => f.1 v ∧ f.2 v w) w ((execOp a.eval o).run P w)) ∧ ∀ v, f.1 v → K v (a.put o.dst v)
      else ∀ K' : Act → Prop, (∀ a', wpRel P ops C E (pfT L) D Q l (k + 1) (upd vs k undef) Γ a' → K' a') → K' (a.put o.dst undef)) :
    wpRel P ops C E (pfT L) D Q (o :: l) k vs Γ a :=
  wpRel_eff (R := (f.1, fun _ v w => f.2 v w)) (by unfold pfT; rw [hp]; rfl) h
end

section
variable {G : Nat} {W x : World}
theorem tab_call {P : Program} {f : FuncId} {args : Array Value} {R : Value → World → Prop} (hG : G ≤ W.heap.size) (h : ∀ w, Below G W w → G ≤ w.heap.size → Calls P f args w fun e w' => (∃ v, e = .returned v ∧ R v w') ∧ Below w.heap.size w w') :
    Calls P f args (grown G W x) fun e w'' => ∃ v, e = .returned v ∧ (∃ n, w'' = grown G W n) ∧ Below (grown G W x).heap.size (grown G W x) w'' ∧ R v w'' :=
  (h _ (grown_below G W x) (grown_size G W x hG)).mono fun _ w'' ⟨⟨v, he, hr⟩, hb⟩ =>
    ⟨v, he, ⟨w'', (grown_of ((grown_below G W x).trans (hb.mono (grown_size G W x hG))) (Nat.le_trans (grown_size G W x hG) hb.size)).symm⟩, hb, hr⟩
theorem tab_val_at {P : Program} {f : FuncId} {args : Array Value} {c : Value} (hG : G ≤ W.heap.size) (h : Calls P f args (grown G W x) fun e w' => e = .returned c ∧ Below (grown G W x).heap.size (grown G W x) w') :
    Calls P f args (grown G W x) fun e w'' => ∃ v, e = .returned v ∧ (∃ n, w'' = grown G W n) ∧ Below (grown G W x).heap.size (grown G W x) w'' ∧ v = c :=
  h.mono fun _ w'' ⟨he, hb⟩ =>
    ⟨c, he, ⟨w'', (grown_of ((grown_below G W x).trans (hb.mono (grown_size G W x hG))) (Nat.le_trans (grown_size G W x hG) hb.size)).symm⟩, hb, rfl⟩
/-- A call that gives one value. -/
theorem tab_val {P : Program} {f : FuncId} {args : Array Value} {c : Value} (hG : G ≤ W.heap.size) (h : ∀ w, Below G W w → G ≤ w.heap.size → Calls P f args w fun e w' => e = .returned c ∧ Below w.heap.size w w') :
    Calls P f args (grown G W x) fun e w'' => ∃ v, e = .returned v ∧ (∃ n, w'' = grown G W n) ∧ Below (grown G W x).heap.size (grown G W x) w'' ∧ v = c := by
  refine tab_call (R := fun v _ => v = c) hG fun w hb hz => (h w hb hz).mono fun e w' ⟨he, hb'⟩ => ⟨⟨c, he, rfl⟩, hb'⟩
/-- A call that gives a row of the call's own. -/
theorem tab_row {P : Program} {f : FuncId} {args : Array Value} {l : List Int} (hG : G ≤ W.heap.size) (h : ∀ w, Below G W w → G ≤ w.heap.size → Calls P f args w fun e w' => (∃ v, e = .returned v ∧ OwI w' w.heap.size v l) ∧ Below w.heap.size w w') :
    Calls P f args (grown G W x) fun e w'' => ∃ v, e = .returned v ∧ (∃ n, w'' = grown G W n) ∧ Below (grown G W x).heap.size (grown G W x) w'' ∧ ListV l v ∧ OwI w'' G v l := by
  refine tab_call (R := fun v w' => ListV l v ∧ OwI w' G v l) hG fun w hb hz => (h w hb hz).mono fun e w' ⟨⟨v, he, ho⟩, hb'⟩ => ⟨⟨v, he, ho.form, ho.mono hz⟩, hb'⟩
theorem tab_pat {P : Program} {f : FuncId} {args : Array Value} {p : List Sp} {win : Int} (hG : G ≤ W.heap.size) (h : ∀ w, Below G W w → G ≤ w.heap.size → Calls P f args w fun e w' => (∃ sv ps, e = .returned (ptV sv win) ∧ OwP w' w.heap.size sv ps ∧ ps.map (·.1) = p) ∧ Below w.heap.size w w') :
    Calls P f args (grown G W x) fun e w'' => ∃ v, e = .returned v ∧ (∃ n, w'' = grown G W n) ∧ Below (grown G W x).heap.size (grown G W x) w'' ∧ (∃ sv, v = ptV sv win) ∧ ∃ sv, v = ptV sv win ∧ ∃ ps, OwP w'' G sv ps ∧ ps.map (·.1) = p := by
  refine tab_call (R := fun v w' => (∃ sv, v = ptV sv win) ∧ ∃ sv, v = ptV sv win ∧ ∃ ps, OwP w' G sv ps ∧ ps.map (·.1) = p) hG fun w hb hz => (h w hb hz).mono fun e w' ⟨⟨sv, ps, he, ho, hp⟩, hb'⟩ => ⟨⟨_, he, ⟨sv, rfl⟩, sv, rfl, ps, ho.mono hz, hp⟩, hb'⟩
theorem tab_alloc (hG : G ≤ W.heap.size) (l : List Int) (hl : l.length ≤ maxLen) :
    (∃ n, (grown G W x).alloc (.cells (l.map (Value.int .i64)).toArray 3) = grown G W n) ∧ Below (grown G W x).heap.size (grown G W x) ((grown G W x).alloc (.cells (l.map (Value.int .i64)).toArray 3)) ∧
      ListV l (.slice (some ⟨(grown G W x).heap.size, 0, none⟩) l.length l.length) ∧ OwI ((grown G W x).alloc (.cells (l.map (Value.int .i64)).toArray 3)) G (.slice (some ⟨(grown G W x).heap.size, 0, none⟩) l.length l.length) l := by
  have hz := grown_size G W x hG
  have hb : Below (grown G W x).heap.size (grown G W x) ((grown G W x).alloc (.cells (l.map (Value.int .i64)).toArray 3)) := (Below.refl _ _).alloc (Nat.le_refl _) _
  exact ⟨⟨_, (grown_of ((grown_below G W x).trans (hb.mono hz)) (Nat.le_trans hz hb.size)).symm⟩, hb, ⟨_, _, rfl⟩, OwF.ow (.inr ⟨_, rfl, hz, Blk.new _ _ _⟩) hl⟩
theorem tab_full (hG : G ≤ W.heap.size) (l : List Int) :
    (∃ n, (grown G W x).alloc (.cells (l.map (Value.int .i64)).toArray 3) = grown G W n) ∧ Below (grown G W x).heap.size (grown G W x) ((grown G W x).alloc (.cells (l.map (Value.int .i64)).toArray 3)) ∧
      FullV l (.slice (some ⟨(grown G W x).heap.size, 0, none⟩) l.length l.length) ∧ OwF ((grown G W x).alloc (.cells (l.map (Value.int .i64)).toArray 3)) G (.slice (some ⟨(grown G W x).heap.size, 0, none⟩) l.length l.length) l := by
  have hz := grown_size G W x hG
  have hb : Below (grown G W x).heap.size (grown G W x) ((grown G W x).alloc (.cells (l.map (Value.int .i64)).toArray 3)) := (Below.refl _ _).alloc (Nat.le_refl _) _
  exact ⟨⟨_, (grown_of ((grown_below G W x).trans (hb.mono hz)) (Nat.le_trans hz hb.size)).symm⟩, hb, .inr ⟨_, rfl⟩, .inr ⟨_, rfl, hz, Blk.new _ _ _⟩⟩
end
end Go.Proofs.YtmmbblfmhcegcaaGreat
