/- Several texts of one proof: slices.Grow of nil, slices.Concat of two, slices.Repeat of one number: the walks. | The rows of a pattern. No program. | What an iterator over rows keeps of memory while its caller appends to a slice of slices. -/
import Derived.Test.YtmmbblfmhcegcaaGreatM01
import Derived.Test.YtmmbblfmhcegcaaGreatM06
import Derived.Test.YtmmbblfmhcegcaaGreatM07
import Derived.Test.YtmmbblfmhcegcaaGreatShelf
import Derived.Lib.AppendZerosOnto
import Derived.BigRegion
import Derived.LoopN
import Derived.Deep.OwnRows
import Derived.Laws.CopyOwn
import Derived.Test.YtmmbblfmhcegcaaGreatM05

namespace Go.Proofs.YtmmbblfmhcegcaaGreat
open Go.RowKit

theorem wp_append_run {P : Program} {ops : Array Oper} {rest : List Oper} {o : Oper} {a : Act} {Q : Exit → Act → World → Prop} {w w' : World} {t u : TypeId} {v x v' : Value} (s y : Operand) (hgd : o.guard = none) (ho : o.op = .call { callee := .builtin .append, args := #[s, y], argTypes := #[t, u] })
    (hs : a.eval s = v) (hy : a.eval y = x) (hrun : (Builtin.append_ #[t, u] o.type #[v, x]).run P w = .ok v' w') (h : wpList P ops Q rest (a.put o.dst v') w') : wpList P ops Q (o :: rest) a w := by
  refine wpList_plain hgd fun K hK => ?_
  unfold Oper.wp execOp
  simp only [ho, resolve, invoke, builtin, Sem.run_bind, Sem.run_pure, Result.andThen_ok, List.map_toArray, List.map_cons, List.map_nil, hs, hy, hrun]
  exact hK _ _ h

set_option maxRecDepth 100000 in
theorem grow_of_nil (n : Nat) (w : World) (h0 : 0 < n) (hn : n ≤ 900000) :
    Calls Tryz.prog 71 #[.slice none 0 0, .int .i64 n] w fun e w' => (∃ v, e = .returned v ∧ OwI w' w.heap.size v []) ∧ Below w.heap.size w w' := by
  obtain ⟨i0, hi, hz0, hz1, hz2⟩ := info_parts int_info
  have hold : (Builtin.firstCells i0.size 0 (.slice none 0 0)).run Tryz.prog w.drew = .ok ([] : List Value).toArray w.drew := run_firstCells_none w.drew i0.size 0 0 0
  have hrz : ∀ ty, (Builtin.append_ #[28, 3] ty #[.slice none 0 0, .int .i64 n]).run Tryz.prog w =
      .ok (.slice (some ⟨w.heap.size, 0, none⟩) n (grownCap w n 0 3)) (w.drew.alloc (.cells (Builtin.zeroCells (Value.int .i64 0).cells n ++ Builtin.zeroCells (Value.int .i64 0).cells (grownCap w n 0 3 - n)) 3)) := fun ty => by
    have h := Lib.run_append_grow_zeros w 28 3 ty 3 i0 (.int .i64 0) .i64 .i64 Tryz.underlying28 Tryz.underlying3 hi hz0 none 0 0 [] hold n h0 (by omega) (by omega) (by omega) (by rw [hz2]; omega) (growslice_fits (by omega) (by rw [hz2]; omega))
    simpa using h
  have hG := grownCap_ge w n 0 3
  have hG63 := grownCap_le_maxLen w n 0 3 (by unfold maxLen; omega)
  generalize grownCap w n 0 3 = c at *
  have hc : (c : Int) ≤ 9223372036854775807 := by unfold maxLen at hG63; omega
  have hn0 : (0 : Int) < n := by omega
  obtain ⟨W, hW⟩ : ∃ W, w.drew.alloc (.cells (Builtin.zeroCells (Value.int .i64 0).cells n ++ Builtin.zeroCells (Value.int .i64 0).cells (c - n)) 3) = W := ⟨_, rfl⟩
  rw [hW] at hrz
  have hrow : OwI W w.heap.size (.slice (some ⟨w.heap.size, 0, none⟩) 0 c) [] := by
    rw [← hW]
    exact World.ownsRow_made w.drew _ c (Nat.le_refl _) hG63 (by simp only [Array.size_append, size_zeroCells]; simp [Value.cells]; omega)
  have hB : Below w.heap.size w W := by rw [← hW]; exact (Below.refl _ _).drew.alloc (Nat.le_refl _) _
  clear hW hold
  replace hrow := hide hrow
  replace hB := hide hB
  go_enter Tryz.func71, Tryz.ntmps71
  replace hrz := hide hrz
  go_wp2_with (at_builtin; refine wp_append_run (.tmp 20) (.tmp 21) rfl rfl rfl rfl (hrz.out _) ?_)
  go_ret
  exact ⟨⟨_, rfl, hrow.out⟩, hB.out⟩

theorem rd_form {α : Type} {sz : Nat} {cells : World → Nat → α → List Value → Prop} {w : World} {B : Nat} {v : Value} {xs : List α} (h : RdL sz cells w B v xs) : ∃ A cap, v = .slice A xs.length cap := by
  obtain ⟨A, cap, b, off, e, -⟩ := h
  exact ⟨A, cap, e⟩
theorem rdi_src {w : World} {B n cap : Nat} {A : Option Addr} {l : List Int} (h : RdI w B (.slice A n cap) l) :
    n = l.length ∧ (A = none → l.length = 0) ∧ ∀ ad, A = some ad → ∀ j u, (l.map (Value.int .i64))[j]? = some u → w.cell? (ad.add j) = some u := by
  obtain ⟨A', cap', b, off, e, h2, h3, h4, h5⟩ := h
  injection e with e1 e2 e3
  subst e1 e2
  refine ⟨rfl, fun e => ?_, fun ad e j u hu => ?_⟩
  · rcases Nat.eq_zero_or_pos l.length with h0 | h0
    · exact h0
    · rw [e] at h4
      cases (h4 h0).1
  · have hj : j < l.length := by
      have := (List.getElem?_eq_some_iff.1 hu).1
      simpa using this
    obtain ⟨e', -⟩ := h4 (by omega)
    rw [e] at e'
    obtain rfl := Option.some.inj e'
    obtain ⟨vs, rfl, hat⟩ := h5 j l[j] (List.getElem?_eq_getElem hj)
    have := hat 0 (.int .i64 l[j]) rfl
    rw [Addr.add_lit]
    have hu' : u = .int .i64 l[j] := by
      rw [List.getElem?_map, List.getElem?_eq_getElem hj] at hu
      simpa using hu.symm
    rw [hu']
    simpa using this
section
variable {ops : Array Oper} {rest : List Oper} {o : Oper} {a : Act} {Q : Exit → Act → World → Prop} {w : World} {base B m cap : Nat} {v : Value} {A : Option Addr} {l xs : List Int}
theorem app_ints (s y : Operand) (hgd : o.guard = none) (ho : o.op = .call { callee := .builtin .append, args := #[s, y], argTypes := #[28, 28] })
    (hs : a.eval s = v) (hy : a.eval y = .slice A m cap) (hown : OwI w base v l) (hr : RdI w B (.slice A m cap) xs) (hl : l.length + xs.length < 900000) (hbase : base ≤ w.heap.size)
    (h : ∀ v' w', OwI w' base v' (l ++ xs) → w.grownBy w' v.ownBlock → wpList Tryz.prog ops Q rest (a.put o.dst v') w') : wpList Tryz.prog ops Q (o :: rest) a w := by
  obtain ⟨i0, hi, hz0, hz1, hz2⟩ := info_parts int_info
  obtain ⟨rfl, hA, hn⟩ := rdi_src hr
  cases A with
  | none =>
    have hx : xs = [] := List.eq_nil_of_length_eq_zero (hA rfl)
    subst hx
    exact wp_append_run s y hgd ho hs hy (run_app_nil Tryz.underlying28 hi o.type hown cap) (h v w (by simpa using hown) (World.grownBy.refl _ _))
  | some ad =>
    refine wpList_append_own w hgd s y 28 ho base 3 i0 (.int .i64 0) 1 8 Tryz.underlying28 hi hz0 hz1 hz2 rfl (by decide) v l.length _ hs hown ad xs.length cap (xs.map (Value.int .i64)) hy (by simp)
      (hn ad rfl) (by intro u hu; obtain ⟨z, -, rfl⟩ := List.mem_map.1 hu; rfl) (by unfold maxLen; omega) (by omega) hbase ?_
    intro v' w' h1 h2 _
    exact h v' w' (by simpa [OwI] using h1) h2
end

set_option maxRecDepth 100000 in
set_option maxHeartbeats 4000000 in
theorem concat2 (xs ys : List Int) (v u : Value) (g : Nat) (w : World) (hv : RdI w w.heap.size v xs) (hu : RdI w w.heap.size u ys) (hg : Blk w g 28 #[v, u]) (h0 : 0 < xs.length + ys.length) (hl : xs.length + ys.length ≤ 1000) :
    Calls Tryz.prog 46 #[.slice (some ⟨g, 0, none⟩) 2 2] w fun e w' => (∃ r, e = .returned r ∧ OwI w' w.heap.size r (xs ++ ys)) ∧ Below w.heap.size w w' := by
  obtain ⟨A, cap, rfl⟩ := rd_form hv
  obtain ⟨A', cap', rfl⟩ := rd_form hu
  have c0 := hg.cell 0
  have c1 := hg.cell 1
  simp at c0 c1
  have hgl := hg.lt
  replace hv := hide hv
  replace hu := hide hu
  replace hg := hide hg
  have hx : (xs.length : Int) ≤ 1000 := by omega
  have hy : (ys.length : Int) ≤ 1000 := by omega
  have hw1 : IntKind.i64.wrap (0 + (xs.length : Int)) = xs.length := by rw [IntWalk.i64_in _ (by omega)]; omega
  have hsum := hide (show ((xs.length : Int) + ys.length) = ((xs.length + ys.length : Nat) : Int) by omega)
  go_enter Tryz.func46, Tryz.ntmps46
  go_wp2
  refine wp_loop_rounds 3 ?_
  rw [rounds_succ]
  go_wp2
  rw [rounds_succ]
  go_wp2
  rw [rounds_succ]
  go_wp2_with (go_at_call 71; rw [hsum.out]; (with_reducible refine (grow_of_nil (xs.length + ys.length) _ h0 (by omega)).mono ?_); rintro e w1 ⟨⟨v1, rfl, ho1⟩, hB1⟩)
  have hg1 := hide (hg.out.below hB1 hgl)
  have d0 := hg1.out.cell 0
  have d1 := hg1.out.cell 1
  simp at d0 d1
  have hv1 := hide (hv.out.below hB1 hB1.size)
  have hu1 := hide (hu.out.below hB1 hB1.size)
  have hlt1 := hide ho1.lt
  obtain ⟨A1, k1, rfl⟩ := ho1.form
  have hz1 := hB1.size
  replace ho1 := hide ho1
  replace hB1 := hide hB1
  clear c0 c1
  refine wp_loop_rounds 3 ?_
  rw [rounds_succ]
  go_wp2_with (at_builtin; refine app_ints (l := []) (xs := xs) (base := w.heap.size) (.tmp 31) (.tmp 32) rfl rfl rfl rfl ho1.out hv1.out (by simp; omega) hz1 ?_; intro v2 w2 ho2 hg2; have hgn : (some g : Option Nat) ≠ (Value.slice A1 ([] : List Int).length k1).ownBlock := (fun e => by have := (hlt1.out g e.symm).1; omega); have hgw := hide (hg1.out.grown hg2 hgn); have f0 := hgw.out.cell 0; have f1 := hgw.out.cell 1; simp at f0 f1; have hB2 := hide (hB1.out.grown hg2 hz1 (fun j e => (hlt1.out j e).1)); have hlt2 := hide ho2.lt; obtain ⟨A2, k2, rfl⟩ := ho2.form; replace ho2 := hide ho2)
  simp only [List.nil_append] at *
  clear d0 d1 hg2 hgn
  have hz2 := hB2.out.size
  have hu2 := hide (hu.out.below hB2.out hz2)
  rw [rounds_succ]
  go_wp2_with (at_builtin; refine app_ints (l := xs) (xs := ys) (base := w.heap.size) (.tmp 31) (.tmp 32) rfl rfl rfl rfl ho2.out hu2.out (by omega) hz2 ?_; intro v3 w3 ho3 hg3; have hB3 := hide (hB2.out.grown hg3 hz2 (fun j e => (hlt2.out j e).1)); obtain ⟨A3, k3, rfl⟩ := ho3.form; replace ho3 := hide ho3; clear hg3)
  rw [rounds_succ]
  go_wp2
  go_ret
  have ho4 := ho3.out
  rw [List.length_append] at ho4
  exact ⟨⟨_, rfl, ho4⟩, hB3.out⟩

theorem copy_one {V : World} {g : Nat} {cur : Array Value} (hb : Blk V g 3 cur) (o dLen dCap sLen sCap : Nat) (a : Addr) (x : Int) (hx : V.cell? a = some (.int .i64 x)) (hd : 1 = min sLen dLen) (ho : o < cur.size) :
    ∃ V', (Builtin.copy_ #[28, 28] 3 #[.slice (some ⟨g, o, none⟩) dLen dCap, .slice (some a) sLen sCap]).run Tryz.prog V = .ok (.int .i64 1) V' ∧ Blk V' g 3 (cur.setIfInBounds o (.int .i64 x)) ∧ (∀ B, B ≤ g → Below B V V') ∧ V'.heap.size = V.heap.size := by
  have hs : (Tryz.prog.info? 3).map (·.size) = some 1 := by kernel_rfl
  have h := run_copy_row (P := Tryz.prog) V 28 28 3 3 g o dLen dCap a sLen sCap cur 3 [.int .i64 x] Tryz.underlying28 hs hb (by show 1 = min sLen dLen; omega) (by
    intro j v hj
    match j, hj with
    | 0, hj =>
      simp at hj
      subst hj
      simpa [Addr.add] using hx) (by show o + 1 ≤ cur.size; omega) (by intro v hv; rw [List.mem_singleton.1 hv]; rfl)
  refine ⟨_, h, ?_, fun B hB => ⟨rfl, rfl, rfl, by simp [World.setRow], fun k hk => setRow_other V g k _ (by omega)⟩, by simp [World.setRow]⟩
  have e : (cur.toList.take o ++ [Value.int .i64 x] ++ cur.toList.drop (o + 1)).toArray = cur.setIfInBounds o (.int .i64 x) := by
    apply Array.ext'
    rw [Array.toList_setIfInBounds]
    have : o < cur.toList.length := by simpa using ho
    rw [List.set_eq_take_append_cons_drop, if_pos this]
    simp
  have h2 := setRow_heap V g cur (cur.toList.take o ++ [Value.int .i64 x] ++ cur.toList.drop (o + 1)).toArray 3 (0, 0) hb
  rw [e] at h2
  show (V.setRow g (cur.toList.take o ++ [Value.int .i64 x] ++ cur.toList.drop (o + 1)).toArray).heap[g]? = _
  rw [e]
  exact h2
theorem own_blk {w : World} {base g : Nat} {xs : List Int} (hb : Blk w g 3 (xs.map (Value.int .i64)).toArray) (hg : base ≤ g) (hl : xs.length ≤ 900000) : OwI w base (.slice (some ⟨g, 0, none⟩) xs.length xs.length) xs :=
  ⟨by simp, .inr ⟨g, xs.length, _, rfl, hg, hb, Nat.le_refl _, by unfold maxLen; omega, by simp, by rw [Nat.mul_one]; exact List.take_of_length_le (by simp)⟩⟩

set_option maxRecDepth 100000 in
set_option maxHeartbeats 4000000 in
theorem repeat_1 (x : Int) (g : Nat) (w : World) (hg : Blk w g 3 #[.int .i64 x]) :
    Calls Tryz.prog 47 #[.slice (some ⟨g, 0, none⟩) 1 1, .int .i64 1] w fun e w' => (∃ r, e = .returned r ∧ OwI w' w.heap.size r (List.replicate 1 x)) ∧ Below w.heap.size w w' := by
  have hmul := hide (fun w => (by have := Tryz.bits_Mul 1 1 (by omega) (by omega) w; simpa using this : Calls Tryz.prog 72 #[.int .u64 1, .int .u64 1] w fun e w' => e = .returned (.tuple #[.int .u64 0, .int .u64 1]) ∧ w' = w))
  have hgl := hg.lt
  obtain ⟨V0, hV0⟩ : ∃ V0, w.alloc (.cells #[.int .i64 0] 3) = V0 := ⟨_, rfl⟩
  have hmk : (Instr.makeSlice 28 (.int .i64 1) (.int .i64 1)).run Tryz.prog w = .ok (.slice (some ⟨w.heap.size, 0, none⟩) 1 1) V0 := by
    have hm0 : madeCells #[Value.int .i64 0] 1 = #[.int .i64 0] := by kernel_rfl
    rw [← hV0, ← hm0]
    exact run_make_row' (P := Tryz.prog) 28 3 (.int .i64 0) 8 Tryz.underlying28 int_info rfl .i64 .i64 1 (by omega) (by omega) w
  have hb0 : Blk V0 w.heap.size 3 #[.int .i64 0] := by rw [← hV0]; exact Blk.new_ rfl _ _
  have hB0 : Below w.heap.size w V0 := by rw [← hV0]; exact (Below.refl _ _).alloc (Nat.le_refl _) _
  have c0 : V0.cell? ⟨g, 0, none⟩ = some (.int .i64 x) := by rw [hB0.cell (p := ⟨g, 0, none⟩) hgl]; simpa using hg.cell 0
  clear hV0
  obtain ⟨V1, hc1, hb1, hB1, -⟩ := copy_one hb0 0 1 1 1 1 ⟨g, 0, none⟩ x c0 (by omega) (by simp)
  have d1 : V1.drew.cell? ⟨w.heap.size, 0, none⟩ = some (.int .i64 x) := by
    show V1.cell? ⟨w.heap.size, 0, none⟩ = _
    rw [hb1.cell 0]
    simp
  have hb1' : Blk V1.drew w.heap.size 3 ((#[.int .i64 0] : Array Value).setIfInBounds 0 (.int .i64 x)) := hb1
  have hX1 := hide (hB0.trans (hB1 _ (Nat.le_refl _)))
  clear hb0 hB0 hB1
  go_enter Tryz.func47, Tryz.ntmps47
  go_wp2_with (go_at_call 72; (with_reducible refine (hmul.out _).mono ?_); rintro e w1 ⟨rfl, rfl⟩)
  refine wp_loop_rounds 4 ?_
  rw [rounds_succ]
  go_wp2
  go_ret
  exact ⟨⟨_, rfl, own_blk (xs := List.replicate 1 x) (by simpa using hb1) (Nat.le_refl _) (by simp)⟩, hX1.out⟩

set_option maxRecDepth 100000 in
set_option maxHeartbeats 4000000 in
theorem repeat_2 (x : Int) (g : Nat) (w : World) (hg : Blk w g 3 #[.int .i64 x]) :
    Calls Tryz.prog 47 #[.slice (some ⟨g, 0, none⟩) 1 1, .int .i64 2] w fun e w' => (∃ r, e = .returned r ∧ OwI w' w.heap.size r (List.replicate 2 x)) ∧ Below w.heap.size w w' := by
  have hmul := hide (fun w => (by have := Tryz.bits_Mul 1 2 (by omega) (by omega) w; simpa using this : Calls Tryz.prog 72 #[.int .u64 1, .int .u64 2] w fun e w' => e = .returned (.tuple #[.int .u64 0, .int .u64 2]) ∧ w' = w))
  have hgl := hg.lt
  obtain ⟨V0, hV0⟩ : ∃ V0, w.alloc (.cells #[.int .i64 0, .int .i64 0] 3) = V0 := ⟨_, rfl⟩
  have hmk : (Instr.makeSlice 28 (.int .i64 2) (.int .i64 2)).run Tryz.prog w = .ok (.slice (some ⟨w.heap.size, 0, none⟩) 2 2) V0 := by
    have hm0 : madeCells #[Value.int .i64 0] 2 = #[.int .i64 0, .int .i64 0] := by kernel_rfl
    rw [← hV0, ← hm0]
    exact run_make_row' (P := Tryz.prog) 28 3 (.int .i64 0) 8 Tryz.underlying28 int_info rfl .i64 .i64 2 (by omega) (by omega) w
  have hb0 : Blk V0 w.heap.size 3 #[.int .i64 0, .int .i64 0] := by rw [← hV0]; exact Blk.new_ rfl _ _
  have hB0 : Below w.heap.size w V0 := by rw [← hV0]; exact (Below.refl _ _).alloc (Nat.le_refl _) _
  have c0 : V0.cell? ⟨g, 0, none⟩ = some (.int .i64 x) := by rw [hB0.cell (p := ⟨g, 0, none⟩) hgl]; simpa using hg.cell 0
  clear hV0
  obtain ⟨V1, hc1, hb1, hB1, -⟩ := copy_one hb0 0 2 2 1 1 ⟨g, 0, none⟩ x c0 (by omega) (by simp)
  have d1 : V1.drew.cell? ⟨w.heap.size, 0, none⟩ = some (.int .i64 x) := by
    show V1.cell? ⟨w.heap.size, 0, none⟩ = _
    rw [hb1.cell 0]
    simp
  have hb1' : Blk V1.drew w.heap.size 3 ((#[.int .i64 0, .int .i64 0] : Array Value).setIfInBounds 0 (.int .i64 x)) := hb1
  have hX1 := hide (hB0.trans (hB1 _ (Nat.le_refl _)))
  clear hb0 hB0 hB1
  replace hb1 := hide hb1
  obtain ⟨V2, hc2, hb2, hB2, -⟩ := copy_one hb1' 1 1 1 1 2 ⟨w.heap.size, 0, none⟩ x d1 (by omega) (by simp)
  have hX2 := hide (hX1.out.drew.trans (hB2 _ (Nat.le_refl _)))
  clear hB2
  go_enter Tryz.func47, Tryz.ntmps47
  go_wp2_with (go_at_call 72; (with_reducible refine (hmul.out _).mono ?_); rintro e w1 ⟨rfl, rfl⟩)
  refine wp_loop_rounds 4 ?_
  rw [rounds_succ]
  go_wp2
  go_region
  all_goals go_wp2
  all_goals rw [rounds_succ]
  all_goals go_wp2
  go_ret
  exact ⟨⟨_, rfl, own_blk (xs := List.replicate 2 x) (by simpa [List.replicate] using hb2) (Nat.le_refl _) (by simp)⟩, hX2.out⟩

set_option maxRecDepth 100000 in
set_option maxHeartbeats 4000000 in
theorem repeat_3 (x : Int) (g : Nat) (w : World) (hg : Blk w g 3 #[.int .i64 x]) :
    Calls Tryz.prog 47 #[.slice (some ⟨g, 0, none⟩) 1 1, .int .i64 3] w fun e w' => (∃ r, e = .returned r ∧ OwI w' w.heap.size r (List.replicate 3 x)) ∧ Below w.heap.size w w' := by
  have hmul := hide (fun w => (by have := Tryz.bits_Mul 1 3 (by omega) (by omega) w; simpa using this : Calls Tryz.prog 72 #[.int .u64 1, .int .u64 3] w fun e w' => e = .returned (.tuple #[.int .u64 0, .int .u64 3]) ∧ w' = w))
  have hgl := hg.lt
  obtain ⟨V0, hV0⟩ : ∃ V0, w.alloc (.cells #[.int .i64 0, .int .i64 0, .int .i64 0] 3) = V0 := ⟨_, rfl⟩
  have hmk : (Instr.makeSlice 28 (.int .i64 3) (.int .i64 3)).run Tryz.prog w = .ok (.slice (some ⟨w.heap.size, 0, none⟩) 3 3) V0 := by
    have hm0 : madeCells #[Value.int .i64 0] 3 = #[.int .i64 0, .int .i64 0, .int .i64 0] := by kernel_rfl
    rw [← hV0, ← hm0]
    exact run_make_row' (P := Tryz.prog) 28 3 (.int .i64 0) 8 Tryz.underlying28 int_info rfl .i64 .i64 3 (by omega) (by omega) w
  have hb0 : Blk V0 w.heap.size 3 #[.int .i64 0, .int .i64 0, .int .i64 0] := by rw [← hV0]; exact Blk.new_ rfl _ _
  have hB0 : Below w.heap.size w V0 := by rw [← hV0]; exact (Below.refl _ _).alloc (Nat.le_refl _) _
  have c0 : V0.cell? ⟨g, 0, none⟩ = some (.int .i64 x) := by rw [hB0.cell (p := ⟨g, 0, none⟩) hgl]; simpa using hg.cell 0
  clear hV0
  obtain ⟨V1, hc1, hb1, hB1, -⟩ := copy_one hb0 0 3 3 1 1 ⟨g, 0, none⟩ x c0 (by omega) (by simp)
  have d1 : V1.drew.cell? ⟨w.heap.size, 0, none⟩ = some (.int .i64 x) := by
    show V1.cell? ⟨w.heap.size, 0, none⟩ = _
    rw [hb1.cell 0]
    simp
  have hb1' : Blk V1.drew w.heap.size 3 ((#[.int .i64 0, .int .i64 0, .int .i64 0] : Array Value).setIfInBounds 0 (.int .i64 x)) := hb1
  have hX1 := hide (hB0.trans (hB1 _ (Nat.le_refl _)))
  clear hb0 hB0 hB1
  replace hb1 := hide hb1
  obtain ⟨V2, hc2, hb2, hB2, -⟩ := copy_one hb1' 1 2 2 1 3 ⟨w.heap.size, 0, none⟩ x d1 (by omega) (by simp)
  have hX2 := hide (hX1.out.drew.trans (hB2 _ (Nat.le_refl _)))
  clear hB2
  have d2 : V2.drew.cell? ⟨w.heap.size, 0, none⟩ = some (.int .i64 x) := by
    show V2.cell? ⟨w.heap.size, 0, none⟩ = _
    rw [hb2.cell 0]
    simp
  have hb2' : Blk V2.drew w.heap.size 3 (((#[.int .i64 0, .int .i64 0, .int .i64 0] : Array Value).setIfInBounds 0 (.int .i64 x)).setIfInBounds 1 (.int .i64 x)) := hb2
  obtain ⟨V3, hc3, hb3, hB3, -⟩ := copy_one hb2' 2 1 1 2 3 ⟨w.heap.size, 0, none⟩ x d2 (by omega) (by simp)
  have hX3 := hide (hX2.out.drew.trans (hB3 _ (Nat.le_refl _)))
  clear hB3
  go_enter Tryz.func47, Tryz.ntmps47
  go_wp2_with (go_at_call 72; (with_reducible refine (hmul.out _).mono ?_); rintro e w1 ⟨rfl, rfl⟩)
  refine wp_loop_rounds 4 ?_
  rw [rounds_succ]
  go_wp2
  go_region
  all_goals go_wp2
  all_goals rw [rounds_succ]
  all_goals go_wp2
  go_region
  all_goals go_wp2
  all_goals rw [rounds_succ]
  all_goals go_wp2
  go_ret
  exact ⟨⟨_, rfl, own_blk (xs := List.replicate 3 x) (by simpa [List.replicate] using hb3) (Nat.le_refl _) (by simp)⟩, hX3.out⟩

theorem repeat_any (x : Int) (k : Nat) (h1 : 1 ≤ k) (h3 : k ≤ 3) (g : Nat) (w : World) (hg : Blk w g 3 #[.int .i64 x]) :
    Calls Tryz.prog 47 #[.slice (some ⟨g, 0, none⟩) 1 1, .int .i64 k] w fun e w' => (∃ r, e = .returned r ∧ OwI w' w.heap.size r (List.replicate k x)) ∧ Below w.heap.size w w' := by
  obtain rfl | rfl | rfl : k = 1 ∨ k = 2 ∨ k = 3 := by omega
  · exact repeat_1 x g w hg
  · exact repeat_2 x g w hg
  · exact repeat_3 x g w hg
end Go.Proofs.YtmmbblfmhcegcaaGreat

namespace Go.Proofs.YtmmbblfmhcegcaaGreat

/-- The rows of the steps from number i on, behind others. -/
def rowsL : List Sp → Nat → List Int → List (List Int)
  | [], _, ahead => [ahead]
  | s :: r, i, ahead => if s.neg then rowsL r (i + 1) ahead else (List.range (s.max - s.min + 1).toNat).flatMap fun j => rowsL r (i + 1) (ahead ++ List.replicate (s.min.toNat + j) (i : Int))
/-- How often a step may come is at least once, at most three times. -/
def Span (p : List Sp) : Prop := ∀ s ∈ p, s.neg = true ∨ (1 ≤ s.min ∧ s.min ≤ s.max ∧ s.max ≤ 3)
/-- The rows of step s, of number i, that comes m times more than it must, for all m below j. -/
def rowsTo (r : List Sp) (s : Sp) (i : Nat) (ahead : List Int) (j : Nat) : List (List Int) := (List.range j).flatMap fun j => rowsL r (i + 1) (ahead ++ List.replicate (s.min.toNat + j) (i : Int))
theorem rowsTo_succ (r : List Sp) (s : Sp) (i : Nat) (ahead : List Int) (j : Nat) : rowsTo r s i ahead (j + 1) = rowsTo r s i ahead j ++ rowsL r (i + 1) (ahead ++ List.replicate (s.min.toNat + j) (i : Int)) := by
  simp [rowsTo, List.range_succ]
theorem rowsTo_le (r : List Sp) (s : Sp) (i : Nat) (ahead : List Int) {j k : Nat} (h : j ≤ k) : ∃ t, rowsTo r s i ahead k = rowsTo r s i ahead j ++ t := by
  induction k with
  | zero => exact ⟨[], by simp [show j = 0 by omega]⟩
  | succ k ih =>
    by_cases hj : j = k + 1
    · exact ⟨[], by simp [hj]⟩
    · obtain ⟨t, ht⟩ := ih (by omega)
      exact ⟨_, by rw [rowsTo_succ, ht, List.append_assoc]⟩
theorem rowsL_neg {p : List Sp} {i : Nat} {s : Sp} (h : p[i]? = some s) (hn : s.neg = true) (ahead : List Int) : rowsL (p.drop i) i ahead = rowsL (p.drop (i + 1)) (i + 1) ahead := by
  have hi := (List.getElem?_eq_some_iff.1 h).1
  rw [List.drop_eq_getElem_cons hi]
  have e : p[i] = s := (List.getElem?_eq_some_iff.1 h).2
  simp [rowsL, e, hn]
theorem rowsL_pos {p : List Sp} {i : Nat} {s : Sp} (h : p[i]? = some s) (hn : s.neg = false) (ahead : List Int) : rowsL (p.drop i) i ahead = rowsTo (p.drop (i + 1)) s i ahead (s.max - s.min + 1).toNat := by
  have hi := (List.getElem?_eq_some_iff.1 h).1
  rw [List.drop_eq_getElem_cons hi]
  have e : p[i] = s := (List.getElem?_eq_some_iff.1 h).2
  simp [rowsL, e, hn, rowsTo]
theorem Span.tail {s : Sp} {r : List Sp} (h : Span (s :: r)) : Span r := fun t ht => h t (List.mem_cons_of_mem _ ht)
theorem flatMap_le {α : Type} {β : Type} (f : α → List β) (c : Nat) (l : List α) (h : ∀ a ∈ l, (f a).length ≤ c) : (l.flatMap f).length ≤ l.length * c := by
  induction l with
  | nil => simp
  | cons a l ih =>
    have h1 := h a (List.mem_cons_self ..)
    have h2 := ih fun b hb => h b (List.mem_cons_of_mem _ hb)
    simp only [List.flatMap_cons, List.length_append, List.length_cons, Nat.add_mul, Nat.one_mul]
    omega
theorem rowsL_len {p : List Sp} (h : Span p) : ∀ (i : Nat) (a : List Int), (rowsL p i a).length ≤ 3 ^ p.length := by
  induction p with
  | nil => intro i a; simp [rowsL]
  | cons s r ih =>
    intro i a
    have ih' := ih h.tail
    simp only [rowsL, List.length_cons, Nat.pow_succ]
    split
    · have := ih' (i + 1) a
      have h0 : 0 < 3 ^ r.length := Nat.pow_pos (by omega)
      omega
    · rename_i hn
      rcases h s (List.mem_cons_self ..) with h1 | h1
      · exact absurd h1 hn
      · have h2 := flatMap_le (fun j => rowsL r (i + 1) (a ++ List.replicate (s.min.toNat + j) (i : Int))) (3 ^ r.length) (List.range (s.max - s.min + 1).toNat) (fun j _ => ih' _ _)
        have h3 : (s.max - s.min + 1).toNat ≤ 3 := by omega
        rw [List.length_range] at h2
        have h4 : (s.max - s.min + 1).toNat * 3 ^ r.length ≤ 3 * 3 ^ r.length := Nat.mul_le_mul_right _ h3
        omega
theorem rowsL_mem {p : List Sp} (h : Span p) : ∀ (i : Nat) (a l : List Int), l ∈ rowsL p i a → l.length ≤ a.length + 3 * p.length := by
  induction p with
  | nil => intro i a l hl; simp [rowsL] at hl; subst hl; omega
  | cons s r ih =>
    intro i a l hl
    have ih' := ih h.tail
    simp only [rowsL, List.length_cons] at hl ⊢
    split at hl
    · have := ih' _ _ _ hl
      omega
    · rename_i hn
      obtain ⟨j, hj, hl⟩ := List.mem_flatMap.1 hl
      have h1 := ih' _ _ _ hl
      have h2 := List.mem_range.1 hj
      rcases h s (List.mem_cons_self ..) with h3 | h3
      · exact absurd h3 hn
      · simp only [List.length_append, List.length_replicate] at h1
        omega
end Go.Proofs.YtmmbblfmhcegcaaGreat

namespace Go.Proofs.YtmmbblfmhcegcaaGreat
open Go.RowKit Go.Shelf

/-- The blocks that the caller writes: box Ball, and the row that it bears. -/
def ConsB (Ball : Nat) (W : World) (k : Nat) : Prop := k = Ball ∨ ∃ n c, W.cell? ⟨Ball, 0, none⟩ = some (.slice (some ⟨k, 0, none⟩) n c)
def ConsOk (Ball : Nat) (W : World) : Prop := ∀ k, ConsB Ball W k → k < W.heap.size
/-- What a round that goes on keeps. -/
structure KpB (n₀ Ball : Nat) (A B : World) : Prop where
  below : Below n₀ A B
  size : A.heap.size ≤ B.heap.size
  cells : ∀ k cs t f, A.heap[k]? = some (.cells cs t f) → ¬ ConsB Ball A k → B.heap[k]? = A.heap[k]?
  cons : ∀ k, ConsB Ball B k → ConsB Ball A k ∨ A.heap.size ≤ k
  ok : ConsOk Ball A → ConsOk Ball B
  box : (∃ cs t f, A.heap[Ball]? = some (Obj.cells cs t f)) → ∃ cs t f, B.heap[Ball]? = some (Obj.cells cs t f)
def Safe (Ball : Nat) (W : World) (k : Nat) : Prop := k < W.heap.size ∧ ¬ ConsB Ball W k
section
variable {n₀ Ball : Nat} {A B C : World}
theorem KpB.trans (h : KpB n₀ Ball A B) (k : KpB n₀ Ball B C) : KpB n₀ Ball A C := by
  refine ⟨h.below.trans k.below, Nat.le_trans h.size k.size, fun j cs t f hj hn => ?_, fun j hj => ?_, fun ho => k.ok (h.ok ho), fun hb => k.box (h.box hb)⟩
  · have h1 := h.cells j cs t f hj hn
    have hlt := (Array.getElem?_eq_some_iff.1 hj).1
    refine (k.cells j cs t f (h1.trans hj) fun hc => ?_).trans h1
    rcases h.cons j hc with h2 | h2
    · exact hn h2
    · omega
  · rcases k.cons j hj with h1 | h1
    · exact h.cons j h1
    · exact .inr (Nat.le_trans h.size h1)
theorem consB_same (h : B.cell? ⟨Ball, 0, none⟩ = A.cell? ⟨Ball, 0, none⟩) (k : Nat) : ConsB Ball B k ↔ ConsB Ball A k := by unfold ConsB; rw [h]
theorem KpB.of_below (hb : Ball < A.heap.size) (hn : n₀ ≤ A.heap.size) (h : Below A.heap.size A B) : KpB n₀ Ball A B := by
  have hc := consB_same (A := A) (B := B) (h.cell (p := ⟨Ball, 0, none⟩) hb)
  exact ⟨h.mono hn, h.size, fun k cs t f hk _ => h.block k (Array.getElem?_eq_some_iff.1 hk).1, fun k hk => .inl ((hc k).1 hk), fun ho k hk => Nat.lt_of_lt_of_le (ho k ((hc k).1 hk)) h.size, fun ⟨cs, t, f, e⟩ => ⟨cs, t, f, (h.block Ball hb).trans e⟩⟩
theorem KpB.refl (A : World) : KpB n₀ Ball A A := ⟨Below.refl _ _, Nat.le_refl _, fun _ _ _ _ _ _ => rfl, fun _ h => .inl h, fun h => h, fun h => h⟩
theorem cell_putObj {W : World} {l : Nat} {o : Obj} (o' : Obj) (hl : W.heap[l]? = some o) (ho : o.isCells = false) (ho' : o'.isCells = false) (b j : Nat) : (W.putObj l o').cell? ⟨b, j, none⟩ = W.cell? ⟨b, j, none⟩ := by
  by_cases h : b = l
  · subst h
    have h1 := World.putObj_heap_same (o := o') (Array.getElem?_eq_some_iff.1 hl).1
    unfold World.cell?
    simp only [h1, hl]
    cases o <;> cases o' <;> simp_all [Obj.isCells]
  · exact World.cell?_of_block (a := ⟨b, j, none⟩) (World.putObj_heap_other h)
theorem KpB.putObj {l : Nat} {o o' : Obj} (hn : n₀ ≤ l) (hB : Ball < l) (hl : A.heap[l]? = some o) (ho : o.isCells = false) : KpB n₀ Ball A (A.putObj l o') := by
  have hc := consB_same (A := A) (B := A.putObj l o') (World.cell?_of_block (a := ⟨Ball, 0, none⟩) (World.putObj_heap_other (by show Ball ≠ l; omega)))
  have hlt := (Array.getElem?_eq_some_iff.1 hl).1
  refine ⟨Below.putD (Below.refl _ _) (by omega) hn _, by simp [World.putObj], fun k cs t f hk _ => World.putObj_heap_other ?_, fun k hk => .inl ((hc k).1 hk), fun hok k hk => by have := hok k ((hc k).1 hk); simpa [World.putObj] using this, fun ⟨cs, t, f, e⟩ => ⟨cs, t, f, (World.putObj_heap_other (by omega)).trans e⟩⟩
  rintro rfl
  rw [hk] at hl
  cases hl
  cases ho
theorem Safe.kp {k : Nat} (h : Safe Ball A k) (hk : KpB n₀ Ball A B) : Safe Ball B k := by
  refine ⟨Nat.lt_of_lt_of_le h.1 hk.size, fun hc => ?_⟩
  rcases hk.cons k hc with h1 | h1
  · exact h.2 h1
  · have := h.1; omega
theorem Blk.kp {g : Nat} {t : TypeId} {cs : Array Value} (h : Blk A g t cs) (hs : Safe Ball A g) (hk : KpB n₀ Ball A B) : Blk B g t cs := (hk.cells g cs t (0, 0) h hs.2).trans h
theorem Safe.new (ho : ConsOk Ball A) (hb : Ball < A.heap.size) {B : World} (hB : Below A.heap.size A B) {k : Nat} (h1 : A.heap.size ≤ k) (h2 : k < B.heap.size) : Safe Ball B k := by
  refine ⟨h2, fun hc => ?_⟩
  have := ho k ((consB_same (hB.cell (p := ⟨Ball, 0, none⟩) hb) k).1 hc)
  omega
/-- A row of numbers that no one writes. -/
def RowOk (Ball : Nat) (W : World) (v : Value) (l : List Int) : Prop := (∃ base, OwI W base v l) ∧ ∀ g, v.ownBlock = some g → Safe Ball W g
theorem RowOk.kp {v : Value} {l : List Int} (h : RowOk Ball A v l) (hk : KpB n₀ Ball A B) : RowOk Ball B v l := by
  obtain ⟨⟨base, h1⟩, h2⟩ := h
  refine ⟨⟨base, h1.1, ?_⟩, fun g hg => (h2 g hg).kp hk⟩
  rcases h1.2 with e | ⟨g, cap, cur, rfl, h3, h4, r⟩
  · exact .inl e
  · exact .inr ⟨g, cap, cur, rfl, h3, (hk.cells g cur _ _ h4 (h2 g rfl).2).trans h4, r⟩
theorem RowOk.rd {v : Value} {l : List Int} (h : RowOk Ball A v l) : RdI A A.heap.size v l := h.1.choose_spec.rd
end

theorem KpB.of_grown {n₀ Ball : Nat} {X Y : World} {row : Option Nat} (hn : n₀ ≤ X.heap.size) (hg : X.grownBy Y row) (hr : ∀ r, row = some r → n₀ ≤ r ∧ ∃ o : Obj, X.heap[r]? = some o ∧ o.isCells = false) (hBc : ∃ cs t f, X.heap[Ball]? = some (.cells cs t f)) : KpB n₀ Ball X Y := by
  have keep : ∀ (k : Nat) (cs : Array Value) (t : TypeId) (f : Nat × Nat), X.heap[k]? = some (Obj.cells cs t f) → Y.heap[k]? = X.heap[k]? := fun k cs t f hk => hg.block k (Array.getElem?_eq_some_iff.1 hk).1 (fun e => by
    obtain ⟨-, o, ho, hc⟩ := hr k e.symm
    rw [hk] at ho
    cases ho
    cases hc)
  obtain ⟨cs, t, f, hcs⟩ := hBc
  have hc := consB_same (A := X) (B := Y) (World.cell?_of_block (a := ⟨Ball, 0, none⟩) (keep Ball cs t f hcs))
  exact ⟨(Below.refl n₀ X).grown hg hn (fun k e => (hr k e).1), hg.size, fun k cs t f hk _ => keep k cs t f hk, fun k hk => .inl ((hc k).1 hk), fun ho k hk => Nat.lt_of_lt_of_le (ho k ((hc k).1 hk)) hg.size, fun _ => ⟨cs, t, f, (keep Ball cs t f hcs).trans hcs⟩⟩
theorem owi_grown {X Y : World} {row : Option Nat} {base : Nat} {v : Value} {l : List Int} (h : OwI X base v l) (hg : X.grownBy Y row) (hr : ∀ r, row = some r → ∃ o : Obj, X.heap[r]? = some o ∧ o.isCells = false) : OwI Y base v l := by
  refine ⟨h.1, ?_⟩
  rcases h.2 with e | ⟨g, cap, cur, e1, e2, e3, e4⟩
  · exact .inl e
  · refine .inr ⟨g, cap, cur, e1, e2, (hg.block g (Array.getElem?_eq_some_iff.1 e3).1 (fun e => ?_)).trans e3, e4⟩
    obtain ⟨o, ho, hc⟩ := hr g e.symm
    rw [e3] at ho
    cases ho
    cases hc

/-- What the iterator over rows leans on: its three variables, the pattern, the row ahead. -/
structure RowsPre (n₀ Ball : Nat) (w : World) (Bi Bp Ba : Nat) (p : List Sp) (win : Int) (sv : Value) (i : Nat) (ahead : List Int) (av : Value) : Prop where
  n0 : n₀ ≤ w.heap.size
  rd : RdS w n₀ sv p
  ok : ConsOk Ball w
  box : ∃ cs t f, w.heap[Ball]? = some (Obj.cells cs t f)
  bi : Blk w Bi 3 #[.int .i64 i]
  bp : Blk w Bp 24 #[sv, .int .i64 win]
  ba : Blk w Ba 28 #[av]
  si : Safe Ball w Bi
  sp : Safe Ball w Bp
  sa : Safe Ball w Ba
  row : RowOk Ball w av ahead
theorem RowsPre.kp {n₀ Ball : Nat} {w w' : World} {Bi Bp Ba : Nat} {p : List Sp} {win : Int} {sv : Value} {i : Nat} {ahead : List Int} {av : Value} (h : RowsPre n₀ Ball w Bi Bp Ba p win sv i ahead av) (hk : KpB n₀ Ball w w') : RowsPre n₀ Ball w' Bi Bp Ba p win sv i ahead av :=
  ⟨Nat.le_trans h.n0 hk.size, h.rd.below hk.below (Nat.le_refl _), hk.ok h.ok, hk.box h.box, h.bi.kp h.si hk, h.bp.kp h.sp hk, h.ba.kp h.sa hk, h.si.kp hk, h.sp.kp hk, h.sa.kp hk, h.row.kp hk⟩
abbrev rdV (x : List Int) (v : Value) (W : World) : Prop := ∃ base, OwI W base v x

theorem rows_made (win : Int) (A A' : Option Addr) (n c n' c' : Nat) (i : Int) (w : World) : Calls Tryz.prog 38 #[ptV (.slice A n c) win, .int .i64 i, .slice A' n' c'] w fun e w' =>
    e = .returned (.func (.func 45) #[] #[.pointer (some ⟨w.heap.size + 1, 0, none⟩), .pointer (some ⟨w.heap.size, 0, none⟩), .pointer (some ⟨w.heap.size + 1 + 1, 0, none⟩)]) ∧
    w' = ((w.alloc (.cells #[.slice A n c, .int .i64 win] 24)).alloc (.cells #[.int .i64 i] 3)).alloc (.cells #[.slice A' n' c'] 28) := by
  go_enter Tryz.func38, Tryz.ntmps38
  go_wp2
  go_ret
  exact ⟨rfl, rfl⟩
end Go.Proofs.YtmmbblfmhcegcaaGreat
