/- The names that the reference tells; 'append(a, b...)' of two rows of numbers of the call's own, of which the first has no room behind it; a drawn region that does so. -/
import Derived.Test.YtidddeobachjgaaLibI
import Derived.Test.YtidddeobachjgaaLibQ
import Derived.Test.YtidddeobachjgaaLibT
import Derived.Test.YtidddeobachjgaaTrA
import Derived.Test.YtidddeobachjgaaLibK
namespace Go.Proofs.Ytidddeobachjgaa
open Go.RowKit

/-- v is a row of the call's own, of the numbers l, with no room behind them. -/
def FullV (l : List Int) (v : Value) : Prop := (v = .slice none 0 0 ∧ l = []) ∨ ∃ g, v = .slice (some ⟨g, 0, none⟩) l.length l.length
def OwF (w : World) (base : Nat) (v : Value) (l : List Int) : Prop := (v = .slice none 0 0 ∧ l = []) ∨ ∃ g, v = .slice (some ⟨g, 0, none⟩) l.length l.length ∧ base ≤ g ∧ Blk w g 3 (l.map (Value.int .i64)).toArray
section
variable {w w' : World} {base : Nat} {v : Value} {l m : List Int}
theorem OwF.ow (h : OwF w base v l) (hl : l.length ≤ maxLen) : OwI w base v l := by
  rcases h with ⟨rfl, rfl⟩ | ⟨g, rfl, hg, hb⟩
  · exact OwI.nil _ _
  · refine ⟨by simp, .inr ⟨g, l.length, _, rfl, hg, hb, Nat.le_refl _, hl, by simp, List.take_of_length_le (by simp)⟩⟩
theorem OwF.full (h : OwF w base v l) : FullV l v := by
  rcases h with ⟨rfl, rfl⟩ | ⟨g, rfl, hg, hb⟩
  · exact .inl ⟨rfl, rfl⟩
  · exact .inr ⟨g, rfl⟩
theorem OwF.below {B : Nat} (h : OwF w base v l) (hb : Below B w w') (hB : w.heap.size ≤ B) : OwF w' base v l := by
  rcases h with h | ⟨g, rfl, hg, hk⟩
  · exact .inl h
  · exact .inr ⟨g, rfl, hg, hk.below hb (by have := hk.lt; omega)⟩
theorem OwF.mono {b' : Nat} (h : OwF w base v l) (hb : b' ≤ base) : OwF w b' v l := by
  rcases h with h | ⟨g, rfl, hg, hk⟩
  · exact .inl h
  · exact .inr ⟨g, rfl, by omega, hk⟩
theorem fullV_some (l : List Int) : ∃ v, FullV l v := ⟨_, .inr ⟨0, rfl⟩⟩

/-- What there is of a slice of numbers that reads. -/
theorem RdI.news (h : RdI w w.heap.size v m) (h0 : 0 < m.length) : ∃ a cap, v = .slice (some a) m.length cap ∧ ∀ j u, (m.map (Value.int .i64))[j]? = some u → w.cell? (a.add j) = some u := by
  obtain ⟨A, cap, b, off, rfl, h2, h3, h4, h5⟩ := h
  obtain ⟨rfl, hb⟩ := h4 h0
  refine ⟨⟨b, off, none⟩, cap, rfl, fun j u hu => ?_⟩
  rw [List.getElem?_map, Option.map_eq_some_iff] at hu
  obtain ⟨x, hx, rfl⟩ := hu
  obtain ⟨cs, rfl, hat⟩ := h5 j x hx
  rw [Addr.add_lit]
  have := hat.c1
  simpa using this

theorem run_app_full (ty : TypeId) (hv : OwF w base v l) {u : Value} (hu : RdI w w.heap.size u m) (hl : l.length + m.length ≤ 1000000) (hbase : base ≤ w.heap.size) :
    ∃ v' w', (Builtin.append_ #[39, 39] ty #[v, u]).run Try.prog w = .ok v' w' ∧ OwI w' base v' (l ++ m) ∧ Below w.heap.size w w' := by
  obtain ⟨i0, hi, hz0, hz1, hz2⟩ := info_parts int_info
  by_cases h0 : m.length = 0
  · obtain rfl := List.eq_nil_of_length_eq_zero h0
    obtain ⟨A, cap, b, off, rfl, h2, h3, h4, h5⟩ := hu
    refine ⟨v, w, ?_, by simpa using hv.ow (by unfold maxLen; omega), Below.refl _ _⟩
    cases A with
    | none => exact run_app_nil Try.underlying39 hi ty (hv.ow (by unfold maxLen; omega)) cap
    | some ad =>
      rcases hv with ⟨rfl, rfl⟩ | ⟨g, rfl, hg, hb⟩
      · simp [Builtin.append_, run_underlying Try.underlying39, sizeOf, typeInfo, hi, Builtin.lenOf, Builtin.firstCells, loadCells, loadCellsFrom]
      · simp [Builtin.append_, run_underlying Try.underlying39, sizeOf, typeInfo, hi, Builtin.lenOf, Builtin.firstCells, loadCells, loadCellsFrom, storeCells]
  · obtain ⟨a, cap, rfl, hn⟩ := hu.news (by omega)
    rcases hv with ⟨rfl, rfl⟩ | ⟨g, rfl, hg, hb⟩
    · obtain ⟨v', w', hr, h2, h3, h4, h5⟩ := run_append_own_at (P := Try.prog) w base 39 ty 3 i0 (.int .i64 0) 1 8 Try.underlying39 hi hz0 hz1 hz2 rfl (by decide) _ 0 [] (World.ownsRow_nil w base _ _) a m.length cap (m.map (Value.int .i64)) (by simp) hn
        (by intro u hu; obtain ⟨x, -, rfl⟩ := List.mem_map.1 hu; rfl) (by unfold maxLen; omega) (by omega) hbase
      exact ⟨v', w', hr, by simpa [OwI] using h2, h3.os, h3.tape, h3.output, h3.size, fun k hk => h3.block k hk (by simp [Value.ownBlock])⟩
    · have holds : ∀ j u, (l.map (Value.int .i64))[j]? = some u → w.cell? ((⟨g, 0, none⟩ : Addr).add j) = some u := by
        intro j u hu
        rw [Addr.add_lit, Nat.zero_add, hb.cell j]
        simpa using hu
      have hr := run_append_grow (P := Try.prog) w 39 ty 3 i0 (.int .i64 0) Try.underlying39 hi hz0 ⟨g, 0, none⟩ l.length l.length (l.map (Value.int .i64)) (by simp [hz1]) holds a m.length cap (m.map (Value.int .i64)) (by simp [hz1]) hn (by omega) (by omega)
        (growslice_fits (by omega) (by rw [hz2]; omega))
      refine ⟨_, _, hr, ⟨by simp, .inr ⟨w.heap.size, _, _, by rw [List.length_append], hbase, heap_alloc_new w.drew _, ?_, ?_, ?_, ?_⟩⟩, ?_⟩
      · simp only [List.length_append]; exact grownCap_ge w (l.length + m.length) l.length 3
      · exact grownCap_le_maxLen w (l.length + m.length) l.length 3 (by unfold maxLen; omega)
      · have hge := grownCap_ge w (l.length + m.length) l.length 3
        have e0 : (Value.int .i64 0).cells.size = 1 := rfl
        simp only [Array.size_append, List.size_toArray, List.length_map, size_zeroCells, e0, Nat.mul_one]
        omega
      · have e1 : ((l ++ m).map (Value.int .i64)).length = (l ++ m).length * 1 := by simp
        rw [← e1, Array.toList_append, Array.toList_append, ← List.map_append]
        exact List.take_left
      · exact ((Below.refl _ _).drew).alloc (Nat.le_refl _) _
end

set_option maxRecDepth 100000 in
theorem rnames_any (t : Tm) (w : World) : Calls Try.prog 36 #[tmV t] w fun e w' => (∃ v, e = .returned v ∧ OwF w' w.heap.size v t.names) ∧ Below w.heap.size w w' := by
  obtain ⟨k, n, s, r⟩ := t
  by_cases h0 : k = 0
  · subst h0
    go_enter Try.func36, Try.ntmps36
    go_wp2
    go_ret
    exact ⟨⟨_, rfl, .inl ⟨rfl, rfl⟩⟩, (Below.refl _ _).alloc (Nat.le_refl _) _⟩
  have h0' : (k == 0) = false := by simpa using h0
  by_cases h5 : k = 5
  · subst h5
    go_enter Try.func36, Try.ntmps36
    go_wp2
    go_ret
    exact ⟨⟨_, rfl, .inr ⟨_, rfl, by simp, Blk.new_ (by simp) _ _⟩⟩, ((Below.refl _ _).alloc (Nat.le_refl _) _).alloc (by simp) _⟩
  have h5' : (k == 5) = false := by simpa using h5
  by_cases h6 : k = 6
  · subst h6
    go_enter Try.func36, Try.ntmps36
    go_wp2
    go_ret
    exact ⟨⟨_, rfl, .inr ⟨_, rfl, by simp, Blk.new_ (by simp) _ _⟩⟩, ((Below.refl _ _).alloc (Nat.le_refl _) _).alloc (by simp) _⟩
  have h6' : (k == 6) = false := by simpa using h6
  have hn : Tm.names ⟨k, n, s, r⟩ = [s] := by simp [Tm.names, Tm.two, h0, h5, h6]
  rw [hn]
  clear h0 h5 h6
  go_enter Try.func36, Try.ntmps36
  go_wp2
  go_ret
  exact ⟨⟨_, rfl, .inr ⟨_, rfl, by simp, Blk.new_ (by simp) _ _⟩⟩, ((Below.refl _ _).alloc (Nat.le_refl _) _).alloc (by simp) _⟩

/-! ### the region 'all := append(Names(c.L), Names(c.R)...)' -/
def pfTwo (G : Nat) (l r : List Int) (i1 i2 i3 : Nat) (k : Nat) : Option ((Value → Prop) × ((Nat → Value) → Value → World → Prop)) :=
  if k = i1 then some (FullV l, fun _ v w => OwF w G v l)
  else if k = i2 then some (FullV r, fun _ v w => OwF w G v r)
  else if k = i3 then some (fun _ => True, fun _ v w => OwI w G v (l ++ r))
  else none
def dTwo (i1 i2 i3 : Nat) (k : Nat) : List Nat := if k = i3 then [i1, i2] else []
theorem wp_region_two {id : Nat} {Q : Exit → Act → World → Prop} {a : Act} {w : World} {ops : List Oper} (l r : List Int) (i1 i2 i3 : Nat) (hm : Try.prog.follows .mixedOrders = true) (hB : relB ops.toArray (dTwo i1 i2 i3) = true)
    (h : wpRel Try.prog ops.toArray (fun w' => ∃ n, w' = grown w.heap.size w n) (fun w w' => Below w.heap.size w w') (pfTwo w.heap.size l r i1 i2 i3) (dTwo i1 i2 i3) (fun a' w' => Q .normal a' w') ops 0 (fun _ => undef) [] a) :
    (Code.region id ops.toArray true).wp Try.prog Q a w := by
  refine wp_region_rel _ _ (pfTwo w.heap.size l r i1 i2 i3) (dTwo i1 i2 i3) hm hB ?_ ?_ ?_ ⟨w.drew, (grown_of ((Below.refl _ _).drew) (Nat.le_refl _)).symm⟩ h
  · intro k R hR vs vs' v w hd hr
    unfold pfTwo at hR
    split at hR
    · cases hR; exact hr
    · split at hR
      · cases hR; exact hr
      · split at hR
        · cases hR; exact hr
        · cases hR
  · intro k R hR
    unfold pfTwo at hR
    split at hR
    · cases hR; exact fullV_some _
    · split at hR
      · cases hR; exact fullV_some _
      · split at hR
        · cases hR; exact ⟨undef, trivial⟩
        · cases hR
  · intro k R hR vs v w w' hr _ hE
    unfold pfTwo at hR
    split at hR
    · cases hR; exact OwF.below hr hE (Nat.le_refl _)
    · split at hR
      · cases hR; exact OwF.below hr hE (Nat.le_refl _)
      · split at hR
        · cases hR; exact OwI.below hr hE (Nat.le_refl _)
        · cases hR
/-- The call of such a region. -/
theorem calls_two (t : Tm) {G : Nat} {W x : World} (hG : G ≤ W.heap.size) :
    Calls Try.prog 36 #[tmV t] (grown G W x) fun e w'' => ∃ v, e = .returned v ∧ (∃ n, w'' = grown G W n) ∧ Below (grown G W x).heap.size (grown G W x) w'' ∧ FullV t.names v ∧ OwF w'' G v t.names :=
  (rnames_any t _).mono fun _ w'' ⟨⟨v, he, ho⟩, hb⟩ =>
    ⟨v, he, ⟨w'', (grown_of ((grown_below G W x).trans (hb.mono (grown_size G W x hG))) (Nat.le_trans (grown_size G W x hG) hb.size)).symm⟩, hb, ho.full, ho.mono (grown_size G W x hG)⟩
/-- The append of such a region. -/
theorem wpRel_app_two {ops : Array Oper} {G : Nat} {W : World} {l r : List Int} {i1 i2 k : Nat} {Q : Act → World → Prop} {o : Oper} {rest : List Oper} {vs : Nat → Value} {Γ : List (Nat × (World → Prop))} {a : Act} {v1 v2 : Value} (s y : Operand)
    (hG : G ≤ W.heap.size) (hgd : o.guard = none) (ho : o.op = .call { callee := .builtin .append, args := #[s, y], argTypes := #[39, 39] }) (hs : a.eval s = v1) (hy : a.eval y = v2) (hl : l.length + r.length ≤ 1000000) (h1 : i1 ≠ k) (h2 : i2 ≠ k)
    (hg1 : (i1, fun w => OwF w G v1 l) ∈ Γ) (hg2 : (i2, fun w => OwF w G v2 r) ∈ Γ)
    (h : ∀ v, wpRel Try.prog ops (fun w' => ∃ n, w' = grown G W n) (fun w w' => Below w.heap.size w w') (pfTwo G l r i1 i2 k) (dTwo i1 i2 k) Q rest (k + 1) (upd vs k v) ((k, fun w => OwI w G v (l ++ r)) :: Γ) (a.put o.dst v)) :
    wpRel Try.prog ops (fun w' => ∃ n, w' = grown G W n) (fun w w' => Below w.heap.size w w') (pfTwo G l r i1 i2 k) (dTwo i1 i2 k) Q (o :: rest) k vs Γ a := by
  have hp : pfTwo G l r i1 i2 k k = some (fun _ => True, fun _ v w => OwI w G v (l ++ r)) := by
    unfold pfTwo
    rw [if_neg (Ne.symm h1), if_neg (Ne.symm h2), if_pos rfl]
  unfold wpRel
  rw [hp]
  have hw : Region.wanted o (yielded ops a.tmps) = true := by simp [Region.wanted, hgd]
  rw [if_pos hw]
  refine ⟨fun w hC hΓ => ?_, fun v _ => h v⟩
  obtain ⟨n, rfl⟩ := hC
  have f1 : OwF (grown G W n) G v1 l := hΓ _ hg1 (by simp [dTwo])
  have f2 : OwF (grown G W n) G v2 r := hΓ _ hg2 (by simp [dTwo])
  have hz := grown_size G W n hG
  obtain ⟨v', w', hr, ho', hb⟩ := run_app_full o.type f1 (f2.ow (by unfold maxLen; omega)).rd hl hz
  unfold execOp
  simp only [ho, resolve, invoke, builtin, Sem.run_bind, Sem.run_pure, Result.andThen_ok, List.map_toArray, List.map_cons, List.map_nil, hs, hy, hr]
  exact ⟨⟨w', (grown_of ((grown_below G W n).trans (hb.mono hz)) (Nat.le_trans hz hb.size)).symm⟩, hb, trivial, ho'⟩
end Go.Proofs.Ytidddeobachjgaa
