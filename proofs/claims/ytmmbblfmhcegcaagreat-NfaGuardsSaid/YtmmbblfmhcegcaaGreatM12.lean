/- Several texts of one proof: The steps that are not so: the iterator of the layer of checks, and the first of them. -/
import Derived.Test.YtmmbblfmhcegcaaGreatM11

namespace Go.Proofs.YtmmbblfmhcegcaaGreat
open Go.RowKit Go.Shelf
attribute [local go_sem] Oper.semAt_some

theorem steps_any (sv : Value) (win : Int) (fn : Nat) (caps : Array Value) (w : World) : Calls Tryz.prog 61 #[ptV sv win, .func (.func fn) #[] caps] w fun e w' =>
    e = .returned (.func (.func 80) #[] #[.pointer (some ⟨w.heap.size, 0, none⟩), .pointer (some ⟨w.heap.size + 1, 0, none⟩)]) ∧
      w' = (w.alloc (.cells #[sv, .int .i64 win] 24)).alloc (.cells #[.func (.func fn) #[] caps] 86) := by
  go_enter Tryz.func61, Tryz.ntmps61
  go_wp2
  go_ret
  exact ⟨rfl, rfl⟩

set_option maxRecDepth 100000 in
set_option maxHeartbeats 2000000 in
theorem steps3_in (n : Nat) (hn : 1 ≤ n) (l Bp Bs  n0 : Nat) (p : List Sp) (f : Nat → Sp → Bool) (win : Int) (sv : Value) (J Jx : List Int → World → Prop) (W : World) (hJ : AbidesFrom W.heap.size J) (hn0 : n0 ≤ W.heap.size)
    (hbp : Blk W Bp 24 #[sv, .int .i64 win]) (hbs : Blk W Bs 86 #[.func (.func 65) #[] #[]]) (hBs : Bs < n0) (hrd : RdS W n0 sv p)
    (hcall : ∀ (k : Nat) (s : Sp) (cv : Value) (w : World), Below n0 W w → n0 ≤ w.heap.size → p[k]? = some s → RdC w w.heap.size cv s.cmps → Calls Tryz.prog 65 #[.int .i64 k, spV s cv] w fun e w' => e = .returned (.bool (f k s)) ∧ Below w.heap.size w w')
    (hY : ∀ pre x W, J pre W → pre.length < (badFrom f 0 p).length → YieldAt Fence.wide (n - 1) Tryz.prog l #[.int .i64 x] W fun e W' =>
      (e = .returned (.bool true) ∧ J (pre ++ [x]) W' ∧ Below n0 W W') ∨ (e = .returned (.bool false) ∧ Jx (pre ++ [x]) W'))
    (h0 : J [] W) :
    CallsIn Fence.wide n Tryz.prog 80 #[.func (.yield l) #[] #[], .pointer (some ⟨Bp, 0, none⟩), .pointer (some ⟨Bs, 0, none⟩)] W fun e W' => (∃ v, e = .returned v) ∧
      ((∃ ys, ys = badFrom f 0 p ∧ J ys W') ∨ (∃ pre, pre <+: badFrom f 0 p ∧ Jx pre W')) := by
  have hro : Fence.wide.round = none := rfl
  obtain ⟨A, cap, b, off, rfl, h2, h3, h4, h5⟩ := hrd
  have e0 : W.cell? ⟨Bp, 0, none⟩ = some (.slice A p.length cap) := hbp.cell 0
  have hJh := hide hJ
  have hYh := hide hY
  have hCh := hide hcall
  clear hbp hJ hY hcall
  refine callsIn_of_wp Tryz.func80 rfl trivial ?_ rfl
  simp only [Tryz.ntmps80, List.size_toArray, List.length_cons, List.length_nil, Nat.reduceAdd, Nat.reduceSub, Array.replicate_succ, Array.replicate_zero, List.push_toArray, List.append_toArray, List.nil_append, List.cons_append]
  gi_wp2
  gi_loopw [9] (fun i wr => ∃ k : Nat, k ≤ p.length ∧ i = .int .i64 k ∧ J (badFrom f 0 (p.take k)) wr ∧ Below n0 W wr ∧ n0 ≤ wr.heap.size) (fun i _ => p.length - (intOf i).toNat)
  case atStart => exact ⟨0, by omega, rfl, h0, Below.refl _ _, hn0⟩
  case round =>
    obtain ⟨k, hk, rfl, hJk, hB, hz⟩ := hrel
    by_cases hlt : k < p.length
    · obtain ⟨rfl, hb⟩ := h4 (by omega)
      have hx := List.getElem?_eq_getElem hlt
      obtain ⟨cs, ⟨cv, rfl, hcv⟩, hat⟩ := h5 k p[k] hx
      obtain ⟨c0, c1, c2, c3, c4, c5⟩ := (hat.below hB hb).c6
      have hsn := hide (bad_snoc (f := f) hx)
      have hpf := hide (bad_prefix f p (k + 1))
      replace hcv := hcv.below hB hz
      obtain ⟨Ac, kc, rfl⟩ : ∃ A cap, cv = .slice A p[k].cmps.length cap := by
        obtain ⟨A, cap, b, off, e, -⟩ := hcv
        exact ⟨A, cap, e⟩
      have hc2 := hide (hCh.out k p[k] (.slice Ac p[k].cmps.length kc) (wr.alloc (.cells #[.bool p[k].neg, .int .i64 p[k].kind, .int .i64 p[k].min, .int .i64 p[k].max, .bool p[k].strict, .slice Ac p[k].cmps.length kc] 45)) (hB.alloc hz _) (by first | omega | (simp; done) | (simp; omega)) hx (RdC.below hcv ((Below.refl _ _).alloc (Nat.le_refl _) _) (by first | omega | (simp; done) | (simp; omega))))
      have hsb : wr.cell? ⟨Bs, 0, none⟩ = some (.func (.func 65) #[] #[]) := (hB.cell (p := ⟨Bs, 0, none⟩) hBs).trans hbs.one
      have hBs' : Bs < wr.heap.size := by omega
      have hJ1 := hide (hJh.out _ wr (wr.alloc (.cells #[.bool p[k].neg, .int .i64 p[k].kind, .int .i64 p[k].min, .int .i64 p[k].max, .bool p[k].strict, .slice Ac p[k].cmps.length kc] 45)) none hJk (World.grownBy_alloc wr _ none) (fun _ h => by cases h))
      clear hat h5 hcv hJk
      generalize hs : p[k] = s at *
      clear hs
      generalize hL : badFrom f 0 (p.take k) = L at *
      clear hL
      have hw1 : IntKind.i64.wrap ((k : Int) + 1) = (k : Int) + 1 := IntWalk.i64_in _ (by omega)
      cases hf : f k s with
      | true =>
        rw [hf] at hc2 hsn
        clear hf
        gi_wp2
        refine ⟨trivial, ?_⟩
        refine (callsIn_wide.2 hc2.out).mono ?_
        rintro e w1 ⟨rfl, hB1⟩
        gi_wp2_with (refine ⟨fun _ _ => trivial, ?_⟩)
        have hJ2 := hJh.out _ _ _ none hJ1.out (grownBy_of_below hB1) (fun _ h => by cases h)
        refine ⟨⟨k + 1, by omega, rfl, by rw [hsn.out]; simpa using hJ2, ?_, ?_⟩, by simp [intOf]; omega⟩
        · exact (hB.alloc hz _).trans (hB1.mono (by simp; omega))
        · have := hB1.size; simp at this; omega
      | false =>
        rw [hf] at hc2 hsn
        clear hf
        have hlen : L.length < (badFrom f 0 p).length := by
          have := hpf.out.length_le
          rw [hsn.out] at this
          simp at this
          omega
        rw [hsn.out] at hpf
        gi_wp2
        refine ⟨trivial, ?_⟩
        refine (callsIn_wide.2 hc2.out).mono ?_
        rintro e w1 ⟨rfl, hB1⟩
        obtain ⟨fn2, tmps2, assign2, body2, hy2, hR2⟩ := hYh.out _ (k : Int) w1 (hJh.out _ _ _ none hJ1.out (grownBy_of_below hB1) (fun _ h => by cases h)) hlen
        gi_wp2_with (refine ⟨fun _ _ => trivial, ?_⟩)
        refine hR2.mono ?_
        rintro e W3 (⟨rfl, hJ3, hk3⟩ | ⟨rfl, hJx3⟩)
        · gi_wp2_with (refine ⟨fun _ _ => trivial, ?_⟩)
          refine ⟨⟨k + 1, by omega, rfl, by rw [hsn.out]; simpa using hJ3, ?_, ?_⟩, by simp [intOf]; omega⟩
          · exact ((hB.alloc hz _).trans (hB1.mono (by simp; omega))).trans hk3
          · have h1 := hB1.size
            have h2 := hk3.size
            simp at h1
            omega
        · gi_wp2_with (refine ⟨fun _ _ => trivial, ?_⟩)
          refine bodyPost_ret (results_none rfl _ _ _) rfl ?_
          exact ⟨⟨_, rfl⟩, .inr ⟨_, by simpa using hpf.out, hJx3⟩⟩
    · obtain rfl : k = p.length := by omega
      rw [List.take_of_length_le (Nat.le_refl _)] at hJk
      clear h4 h5
      gi_wp2
      go_end0
      exact ⟨⟨_, rfl⟩, .inl ⟨_, rfl, hJk⟩⟩
set_option maxRecDepth 100000 in
set_option maxHeartbeats 2000000 in
theorem steps4_in (n : Nat) (hn : 1 ≤ n) (l Bp Bs B n0 : Nat) (p : List Sp) (f : Nat → Sp → Bool) (win : Int) (sv : Value) (J Jx : List Int → World → Prop) (W : World) (hJ : AbidesFrom W.heap.size J) (hn0 : n0 ≤ W.heap.size)
    (hbp : Blk W Bp 24 #[sv, .int .i64 win]) (hbs : Blk W Bs 86 #[.func (.func 66) #[] #[.pointer (some ⟨B, 0, none⟩)]]) (hBs : Bs < n0) (hrd : RdS W n0 sv p)
    (hcall : ∀ (k : Nat) (s : Sp) (cv : Value) (w : World), Below n0 W w → n0 ≤ w.heap.size → p[k]? = some s → RdC w w.heap.size cv s.cmps → Calls Tryz.prog 66 #[.int .i64 k, spV s cv, .pointer (some ⟨B, 0, none⟩)] w fun e w' => e = .returned (.bool (f k s)) ∧ Below w.heap.size w w')
    (hY : ∀ pre x W, J pre W → pre.length < (badFrom f 0 p).length → YieldAt Fence.wide (n - 1) Tryz.prog l #[.int .i64 x] W fun e W' =>
      (e = .returned (.bool true) ∧ J (pre ++ [x]) W' ∧ Below n0 W W') ∨ (e = .returned (.bool false) ∧ Jx (pre ++ [x]) W'))
    (h0 : J [] W) :
    CallsIn Fence.wide n Tryz.prog 80 #[.func (.yield l) #[] #[], .pointer (some ⟨Bp, 0, none⟩), .pointer (some ⟨Bs, 0, none⟩)] W fun e W' => (∃ v, e = .returned v) ∧
      ((∃ ys, ys = badFrom f 0 p ∧ J ys W') ∨ (∃ pre, pre <+: badFrom f 0 p ∧ Jx pre W')) := by
  have hro : Fence.wide.round = none := rfl
  obtain ⟨A, cap, b, off, rfl, h2, h3, h4, h5⟩ := hrd
  have e0 : W.cell? ⟨Bp, 0, none⟩ = some (.slice A p.length cap) := hbp.cell 0
  have hJh := hide hJ
  have hYh := hide hY
  have hCh := hide hcall
  clear hbp hJ hY hcall
  refine callsIn_of_wp Tryz.func80 rfl trivial ?_ rfl
  simp only [Tryz.ntmps80, List.size_toArray, List.length_cons, List.length_nil, Nat.reduceAdd, Nat.reduceSub, Array.replicate_succ, Array.replicate_zero, List.push_toArray, List.append_toArray, List.nil_append, List.cons_append]
  gi_wp2
  gi_loopw [9] (fun i wr => ∃ k : Nat, k ≤ p.length ∧ i = .int .i64 k ∧ J (badFrom f 0 (p.take k)) wr ∧ Below n0 W wr ∧ n0 ≤ wr.heap.size) (fun i _ => p.length - (intOf i).toNat)
  case atStart => exact ⟨0, by omega, rfl, h0, Below.refl _ _, hn0⟩
  case round =>
    obtain ⟨k, hk, rfl, hJk, hB, hz⟩ := hrel
    by_cases hlt : k < p.length
    · obtain ⟨rfl, hb⟩ := h4 (by omega)
      have hx := List.getElem?_eq_getElem hlt
      obtain ⟨cs, ⟨cv, rfl, hcv⟩, hat⟩ := h5 k p[k] hx
      obtain ⟨c0, c1, c2, c3, c4, c5⟩ := (hat.below hB hb).c6
      have hsn := hide (bad_snoc (f := f) hx)
      have hpf := hide (bad_prefix f p (k + 1))
      replace hcv := hcv.below hB hz
      obtain ⟨Ac, kc, rfl⟩ : ∃ A cap, cv = .slice A p[k].cmps.length cap := by
        obtain ⟨A, cap, b, off, e, -⟩ := hcv
        exact ⟨A, cap, e⟩
      have hc2 := hide (hCh.out k p[k] (.slice Ac p[k].cmps.length kc) (wr.alloc (.cells #[.bool p[k].neg, .int .i64 p[k].kind, .int .i64 p[k].min, .int .i64 p[k].max, .bool p[k].strict, .slice Ac p[k].cmps.length kc] 45)) (hB.alloc hz _) (by first | omega | (simp; done) | (simp; omega)) hx (RdC.below hcv ((Below.refl _ _).alloc (Nat.le_refl _) _) (by first | omega | (simp; done) | (simp; omega))))
      have hsb : wr.cell? ⟨Bs, 0, none⟩ = some (.func (.func 66) #[] #[.pointer (some ⟨B, 0, none⟩)]) := (hB.cell (p := ⟨Bs, 0, none⟩) hBs).trans hbs.one
      have hBs' : Bs < wr.heap.size := by omega
      have hJ1 := hide (hJh.out _ wr (wr.alloc (.cells #[.bool p[k].neg, .int .i64 p[k].kind, .int .i64 p[k].min, .int .i64 p[k].max, .bool p[k].strict, .slice Ac p[k].cmps.length kc] 45)) none hJk (World.grownBy_alloc wr _ none) (fun _ h => by cases h))
      clear hat h5 hcv hJk
      generalize hs : p[k] = s at *
      clear hs
      generalize hL : badFrom f 0 (p.take k) = L at *
      clear hL
      have hw1 : IntKind.i64.wrap ((k : Int) + 1) = (k : Int) + 1 := IntWalk.i64_in _ (by omega)
      cases hf : f k s with
      | true =>
        rw [hf] at hc2 hsn
        clear hf
        gi_wp2
        refine ⟨trivial, ?_⟩
        refine (callsIn_wide.2 hc2.out).mono ?_
        rintro e w1 ⟨rfl, hB1⟩
        gi_wp2_with (refine ⟨fun _ _ => trivial, ?_⟩)
        have hJ2 := hJh.out _ _ _ none hJ1.out (grownBy_of_below hB1) (fun _ h => by cases h)
        refine ⟨⟨k + 1, by omega, rfl, by rw [hsn.out]; simpa using hJ2, ?_, ?_⟩, by simp [intOf]; omega⟩
        · exact (hB.alloc hz _).trans (hB1.mono (by simp; omega))
        · have := hB1.size; simp at this; omega
      | false =>
        rw [hf] at hc2 hsn
        clear hf
        have hlen : L.length < (badFrom f 0 p).length := by
          have := hpf.out.length_le
          rw [hsn.out] at this
          simp at this
          omega
        rw [hsn.out] at hpf
        gi_wp2
        refine ⟨trivial, ?_⟩
        refine (callsIn_wide.2 hc2.out).mono ?_
        rintro e w1 ⟨rfl, hB1⟩
        obtain ⟨fn2, tmps2, assign2, body2, hy2, hR2⟩ := hYh.out _ (k : Int) w1 (hJh.out _ _ _ none hJ1.out (grownBy_of_below hB1) (fun _ h => by cases h)) hlen
        gi_wp2_with (refine ⟨fun _ _ => trivial, ?_⟩)
        refine hR2.mono ?_
        rintro e W3 (⟨rfl, hJ3, hk3⟩ | ⟨rfl, hJx3⟩)
        · gi_wp2_with (refine ⟨fun _ _ => trivial, ?_⟩)
          refine ⟨⟨k + 1, by omega, rfl, by rw [hsn.out]; simpa using hJ3, ?_, ?_⟩, by simp [intOf]; omega⟩
          · exact ((hB.alloc hz _).trans (hB1.mono (by simp; omega))).trans hk3
          · have h1 := hB1.size
            have h2 := hk3.size
            simp at h1
            omega
        · gi_wp2_with (refine ⟨fun _ _ => trivial, ?_⟩)
          refine bodyPost_ret (results_none rfl _ _ _) rfl ?_
          exact ⟨⟨_, rfl⟩, .inr ⟨_, by simpa using hpf.out, hJx3⟩⟩
    · obtain rfl : k = p.length := by omega
      rw [List.take_of_length_le (Nat.le_refl _)] at hJk
      clear h4 h5
      gi_wp2
      go_end0
      exact ⟨⟨_, rfl⟩, .inl ⟨_, rfl, hJk⟩⟩
set_option maxRecDepth 100000 in
set_option maxHeartbeats 2000000 in
theorem steps5_in (n : Nat) (hn : 1 ≤ n) (l Bp Bs  n0 : Nat) (p : List Sp) (f : Nat → Sp → Bool) (win : Int) (sv : Value) (J Jx : List Int → World → Prop) (W : World) (hJ : AbidesFrom W.heap.size J) (hn0 : n0 ≤ W.heap.size)
    (hbp : Blk W Bp 24 #[sv, .int .i64 win]) (hbs : Blk W Bs 86 #[.func (.func 67) #[] #[]]) (hBs : Bs < n0) (hrd : RdS W n0 sv p)
    (hcall : ∀ (k : Nat) (s : Sp) (cv : Value) (w : World), Below n0 W w → n0 ≤ w.heap.size → p[k]? = some s → RdC w w.heap.size cv s.cmps → Calls Tryz.prog 67 #[.int .i64 k, spV s cv] w fun e w' => e = .returned (.bool (f k s)) ∧ Below w.heap.size w w')
    (hY : ∀ pre x W, J pre W → pre.length < (badFrom f 0 p).length → YieldAt Fence.wide (n - 1) Tryz.prog l #[.int .i64 x] W fun e W' =>
      (e = .returned (.bool true) ∧ J (pre ++ [x]) W' ∧ Below n0 W W') ∨ (e = .returned (.bool false) ∧ Jx (pre ++ [x]) W'))
    (h0 : J [] W) :
    CallsIn Fence.wide n Tryz.prog 80 #[.func (.yield l) #[] #[], .pointer (some ⟨Bp, 0, none⟩), .pointer (some ⟨Bs, 0, none⟩)] W fun e W' => (∃ v, e = .returned v) ∧
      ((∃ ys, ys = badFrom f 0 p ∧ J ys W') ∨ (∃ pre, pre <+: badFrom f 0 p ∧ Jx pre W')) := by
  have hro : Fence.wide.round = none := rfl
  obtain ⟨A, cap, b, off, rfl, h2, h3, h4, h5⟩ := hrd
  have e0 : W.cell? ⟨Bp, 0, none⟩ = some (.slice A p.length cap) := hbp.cell 0
  have hJh := hide hJ
  have hYh := hide hY
  have hCh := hide hcall
  clear hbp hJ hY hcall
  refine callsIn_of_wp Tryz.func80 rfl trivial ?_ rfl
  simp only [Tryz.ntmps80, List.size_toArray, List.length_cons, List.length_nil, Nat.reduceAdd, Nat.reduceSub, Array.replicate_succ, Array.replicate_zero, List.push_toArray, List.append_toArray, List.nil_append, List.cons_append]
  gi_wp2
  gi_loopw [9] (fun i wr => ∃ k : Nat, k ≤ p.length ∧ i = .int .i64 k ∧ J (badFrom f 0 (p.take k)) wr ∧ Below n0 W wr ∧ n0 ≤ wr.heap.size) (fun i _ => p.length - (intOf i).toNat)
  case atStart => exact ⟨0, by omega, rfl, h0, Below.refl _ _, hn0⟩
  case round =>
    obtain ⟨k, hk, rfl, hJk, hB, hz⟩ := hrel
    by_cases hlt : k < p.length
    · obtain ⟨rfl, hb⟩ := h4 (by omega)
      have hx := List.getElem?_eq_getElem hlt
      obtain ⟨cs, ⟨cv, rfl, hcv⟩, hat⟩ := h5 k p[k] hx
      obtain ⟨c0, c1, c2, c3, c4, c5⟩ := (hat.below hB hb).c6
      have hsn := hide (bad_snoc (f := f) hx)
      have hpf := hide (bad_prefix f p (k + 1))
      replace hcv := hcv.below hB hz
      obtain ⟨Ac, kc, rfl⟩ : ∃ A cap, cv = .slice A p[k].cmps.length cap := by
        obtain ⟨A, cap, b, off, e, -⟩ := hcv
        exact ⟨A, cap, e⟩
      have hc2 := hide (hCh.out k p[k] (.slice Ac p[k].cmps.length kc) (wr.alloc (.cells #[.bool p[k].neg, .int .i64 p[k].kind, .int .i64 p[k].min, .int .i64 p[k].max, .bool p[k].strict, .slice Ac p[k].cmps.length kc] 45)) (hB.alloc hz _) (by first | omega | (simp; done) | (simp; omega)) hx (RdC.below hcv ((Below.refl _ _).alloc (Nat.le_refl _) _) (by first | omega | (simp; done) | (simp; omega))))
      have hsb : wr.cell? ⟨Bs, 0, none⟩ = some (.func (.func 67) #[] #[]) := (hB.cell (p := ⟨Bs, 0, none⟩) hBs).trans hbs.one
      have hBs' : Bs < wr.heap.size := by omega
      have hJ1 := hide (hJh.out _ wr (wr.alloc (.cells #[.bool p[k].neg, .int .i64 p[k].kind, .int .i64 p[k].min, .int .i64 p[k].max, .bool p[k].strict, .slice Ac p[k].cmps.length kc] 45)) none hJk (World.grownBy_alloc wr _ none) (fun _ h => by cases h))
      clear hat h5 hcv hJk
      generalize hs : p[k] = s at *
      clear hs
      generalize hL : badFrom f 0 (p.take k) = L at *
      clear hL
      have hw1 : IntKind.i64.wrap ((k : Int) + 1) = (k : Int) + 1 := IntWalk.i64_in _ (by omega)
      cases hf : f k s with
      | true =>
        rw [hf] at hc2 hsn
        clear hf
        gi_wp2
        refine ⟨trivial, ?_⟩
        refine (callsIn_wide.2 hc2.out).mono ?_
        rintro e w1 ⟨rfl, hB1⟩
        gi_wp2_with (refine ⟨fun _ _ => trivial, ?_⟩)
        have hJ2 := hJh.out _ _ _ none hJ1.out (grownBy_of_below hB1) (fun _ h => by cases h)
        refine ⟨⟨k + 1, by omega, rfl, by rw [hsn.out]; simpa using hJ2, ?_, ?_⟩, by simp [intOf]; omega⟩
        · exact (hB.alloc hz _).trans (hB1.mono (by simp; omega))
        · have := hB1.size; simp at this; omega
      | false =>
        rw [hf] at hc2 hsn
        clear hf
        have hlen : L.length < (badFrom f 0 p).length := by
          have := hpf.out.length_le
          rw [hsn.out] at this
          simp at this
          omega
        rw [hsn.out] at hpf
        gi_wp2
        refine ⟨trivial, ?_⟩
        refine (callsIn_wide.2 hc2.out).mono ?_
        rintro e w1 ⟨rfl, hB1⟩
        obtain ⟨fn2, tmps2, assign2, body2, hy2, hR2⟩ := hYh.out _ (k : Int) w1 (hJh.out _ _ _ none hJ1.out (grownBy_of_below hB1) (fun _ h => by cases h)) hlen
        gi_wp2_with (refine ⟨fun _ _ => trivial, ?_⟩)
        refine hR2.mono ?_
        rintro e W3 (⟨rfl, hJ3, hk3⟩ | ⟨rfl, hJx3⟩)
        · gi_wp2_with (refine ⟨fun _ _ => trivial, ?_⟩)
          refine ⟨⟨k + 1, by omega, rfl, by rw [hsn.out]; simpa using hJ3, ?_, ?_⟩, by simp [intOf]; omega⟩
          · exact ((hB.alloc hz _).trans (hB1.mono (by simp; omega))).trans hk3
          · have h1 := hB1.size
            have h2 := hk3.size
            simp at h1
            omega
        · gi_wp2_with (refine ⟨fun _ _ => trivial, ?_⟩)
          refine bodyPost_ret (results_none rfl _ _ _) rfl ?_
          exact ⟨⟨_, rfl⟩, .inr ⟨_, by simpa using hpf.out, hJx3⟩⟩
    · obtain rfl : k = p.length := by omega
      rw [List.take_of_length_le (Nat.le_refl _)] at hJk
      clear h4 h5
      gi_wp2
      go_end0
      exact ⟨⟨_, rfl⟩, .inl ⟨_, rfl, hJk⟩⟩
set_option maxRecDepth 100000 in
set_option maxHeartbeats 2000000 in
theorem steps7_in (n : Nat) (hn : 1 ≤ n) (l Bp Bs B n0 : Nat) (p : List Sp) (f : Nat → Sp → Bool) (win : Int) (sv : Value) (J Jx : List Int → World → Prop) (W : World) (hJ : AbidesFrom W.heap.size J) (hn0 : n0 ≤ W.heap.size)
    (hbp : Blk W Bp 24 #[sv, .int .i64 win]) (hbs : Blk W Bs 86 #[.func (.func 69) #[] #[.pointer (some ⟨B, 0, none⟩)]]) (hBs : Bs < n0) (hrd : RdS W n0 sv p)
    (hcall : ∀ (k : Nat) (s : Sp) (cv : Value) (w : World), Below n0 W w → n0 ≤ w.heap.size → p[k]? = some s → RdC w w.heap.size cv s.cmps → Calls Tryz.prog 69 #[.int .i64 k, spV s cv, .pointer (some ⟨B, 0, none⟩)] w fun e w' => e = .returned (.bool (f k s)) ∧ Below w.heap.size w w')
    (hY : ∀ pre x W, J pre W → pre.length < (badFrom f 0 p).length → YieldAt Fence.wide (n - 1) Tryz.prog l #[.int .i64 x] W fun e W' =>
      (e = .returned (.bool true) ∧ J (pre ++ [x]) W' ∧ Below n0 W W') ∨ (e = .returned (.bool false) ∧ Jx (pre ++ [x]) W'))
    (h0 : J [] W) :
    CallsIn Fence.wide n Tryz.prog 80 #[.func (.yield l) #[] #[], .pointer (some ⟨Bp, 0, none⟩), .pointer (some ⟨Bs, 0, none⟩)] W fun e W' => (∃ v, e = .returned v) ∧
      ((∃ ys, ys = badFrom f 0 p ∧ J ys W') ∨ (∃ pre, pre <+: badFrom f 0 p ∧ Jx pre W')) := by
  have hro : Fence.wide.round = none := rfl
  obtain ⟨A, cap, b, off, rfl, h2, h3, h4, h5⟩ := hrd
  have e0 : W.cell? ⟨Bp, 0, none⟩ = some (.slice A p.length cap) := hbp.cell 0
  have hJh := hide hJ
  have hYh := hide hY
  have hCh := hide hcall
  clear hbp hJ hY hcall
  refine callsIn_of_wp Tryz.func80 rfl trivial ?_ rfl
  simp only [Tryz.ntmps80, List.size_toArray, List.length_cons, List.length_nil, Nat.reduceAdd, Nat.reduceSub, Array.replicate_succ, Array.replicate_zero, List.push_toArray, List.append_toArray, List.nil_append, List.cons_append]
  gi_wp2
  gi_loopw [9] (fun i wr => ∃ k : Nat, k ≤ p.length ∧ i = .int .i64 k ∧ J (badFrom f 0 (p.take k)) wr ∧ Below n0 W wr ∧ n0 ≤ wr.heap.size) (fun i _ => p.length - (intOf i).toNat)
  case atStart => exact ⟨0, by omega, rfl, h0, Below.refl _ _, hn0⟩
  case round =>
    obtain ⟨k, hk, rfl, hJk, hB, hz⟩ := hrel
    by_cases hlt : k < p.length
    · obtain ⟨rfl, hb⟩ := h4 (by omega)
      have hx := List.getElem?_eq_getElem hlt
      obtain ⟨cs, ⟨cv, rfl, hcv⟩, hat⟩ := h5 k p[k] hx
      obtain ⟨c0, c1, c2, c3, c4, c5⟩ := (hat.below hB hb).c6
      have hsn := hide (bad_snoc (f := f) hx)
      have hpf := hide (bad_prefix f p (k + 1))
      replace hcv := hcv.below hB hz
      obtain ⟨Ac, kc, rfl⟩ : ∃ A cap, cv = .slice A p[k].cmps.length cap := by
        obtain ⟨A, cap, b, off, e, -⟩ := hcv
        exact ⟨A, cap, e⟩
      have hc2 := hide (hCh.out k p[k] (.slice Ac p[k].cmps.length kc) (wr.alloc (.cells #[.bool p[k].neg, .int .i64 p[k].kind, .int .i64 p[k].min, .int .i64 p[k].max, .bool p[k].strict, .slice Ac p[k].cmps.length kc] 45)) (hB.alloc hz _) (by first | omega | (simp; done) | (simp; omega)) hx (RdC.below hcv ((Below.refl _ _).alloc (Nat.le_refl _) _) (by first | omega | (simp; done) | (simp; omega))))
      have hsb : wr.cell? ⟨Bs, 0, none⟩ = some (.func (.func 69) #[] #[.pointer (some ⟨B, 0, none⟩)]) := (hB.cell (p := ⟨Bs, 0, none⟩) hBs).trans hbs.one
      have hBs' : Bs < wr.heap.size := by omega
      have hJ1 := hide (hJh.out _ wr (wr.alloc (.cells #[.bool p[k].neg, .int .i64 p[k].kind, .int .i64 p[k].min, .int .i64 p[k].max, .bool p[k].strict, .slice Ac p[k].cmps.length kc] 45)) none hJk (World.grownBy_alloc wr _ none) (fun _ h => by cases h))
      clear hat h5 hcv hJk
      generalize hs : p[k] = s at *
      clear hs
      generalize hL : badFrom f 0 (p.take k) = L at *
      clear hL
      have hw1 : IntKind.i64.wrap ((k : Int) + 1) = (k : Int) + 1 := IntWalk.i64_in _ (by omega)
      cases hf : f k s with
      | true =>
        rw [hf] at hc2 hsn
        clear hf
        gi_wp2
        refine ⟨trivial, ?_⟩
        refine (callsIn_wide.2 hc2.out).mono ?_
        rintro e w1 ⟨rfl, hB1⟩
        gi_wp2_with (refine ⟨fun _ _ => trivial, ?_⟩)
        have hJ2 := hJh.out _ _ _ none hJ1.out (grownBy_of_below hB1) (fun _ h => by cases h)
        refine ⟨⟨k + 1, by omega, rfl, by rw [hsn.out]; simpa using hJ2, ?_, ?_⟩, by simp [intOf]; omega⟩
        · exact (hB.alloc hz _).trans (hB1.mono (by simp; omega))
        · have := hB1.size; simp at this; omega
      | false =>
        rw [hf] at hc2 hsn
        clear hf
        have hlen : L.length < (badFrom f 0 p).length := by
          have := hpf.out.length_le
          rw [hsn.out] at this
          simp at this
          omega
        rw [hsn.out] at hpf
        gi_wp2
        refine ⟨trivial, ?_⟩
        refine (callsIn_wide.2 hc2.out).mono ?_
        rintro e w1 ⟨rfl, hB1⟩
        obtain ⟨fn2, tmps2, assign2, body2, hy2, hR2⟩ := hYh.out _ (k : Int) w1 (hJh.out _ _ _ none hJ1.out (grownBy_of_below hB1) (fun _ h => by cases h)) hlen
        gi_wp2_with (refine ⟨fun _ _ => trivial, ?_⟩)
        refine hR2.mono ?_
        rintro e W3 (⟨rfl, hJ3, hk3⟩ | ⟨rfl, hJx3⟩)
        · gi_wp2_with (refine ⟨fun _ _ => trivial, ?_⟩)
          refine ⟨⟨k + 1, by omega, rfl, by rw [hsn.out]; simpa using hJ3, ?_, ?_⟩, by simp [intOf]; omega⟩
          · exact ((hB.alloc hz _).trans (hB1.mono (by simp; omega))).trans hk3
          · have h1 := hB1.size
            have h2 := hk3.size
            simp at h1
            omega
        · gi_wp2_with (refine ⟨fun _ _ => trivial, ?_⟩)
          refine bodyPost_ret (results_none rfl _ _ _) rfl ?_
          exact ⟨⟨_, rfl⟩, .inr ⟨_, by simpa using hpf.out, hJx3⟩⟩
    · obtain rfl : k = p.length := by omega
      rw [List.take_of_length_le (Nat.le_refl _)] at hJk
      clear h4 h5
      gi_wp2
      go_end0
      exact ⟨⟨_, rfl⟩, .inl ⟨_, rfl, hJk⟩⟩
end Go.Proofs.YtmmbblfmhcegcaaGreat
