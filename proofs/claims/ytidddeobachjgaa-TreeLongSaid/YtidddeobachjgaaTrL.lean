/- The names of a term: the iterator over them, tree.Names. -/
import Derived.Test.YtidddeobachjgaaTrB
import Derived.Test.YtidddeobachjgaaLibK
import Derived.Test.YtidddeobachjgaaLibI
namespace Go.Proofs.Ytidddeobachjgaa
open Go.RowKit Go.Shelf
attribute [local go_sem] Oper.semAt_some

theorem grownBy_of_below {W W' : World} (h : Below W.heap.size W W') : W.grownBy W' none := ⟨h.os, h.tape, h.output, h.size, fun k hk _ => h.block k hk⟩
theorem Tm.names_eq (t : Tm) : t.names = if t.k = 0 then [] else if t.two = true then [t.s, t.r] else [t.s] := rfl

set_option maxRecDepth 100000 in
set_option maxHeartbeats 2000000 in
theorem names1_in (n : Nat) (hn : 1 ≤ n) (l Bt : Nat) (t : Tm) (J Jx : List Int → World → Prop) (W : World) (hJ : AbidesFrom W.heap.size J) (hB : Blk W Bt 34 #[.int .u8 t.k, .int .i64 t.n, .int .i64 t.s, .int .i64 t.r])
    (hY : ∀ pre x W, J pre W → pre.length < t.names.length → YieldAt Fence.wide (n - 1) Try.prog l #[.int .i64 x] W fun e W' =>
      (e = .returned (.bool true) ∧ J (pre ++ [x]) W' ∧ KB Bt W W') ∨ (e = .returned (.bool false) ∧ Jx (pre ++ [x]) W'))
    (h0 : J [] W) :
    CallsIn Fence.wide n Try.prog 62 #[.func (.yield l) #[] #[], .pointer (some ⟨Bt, 0, none⟩)] W fun e W' => (∃ v, e = .returned v) ∧
      ((∃ ys, ys = t.names ∧ J ys W') ∨ (∃ pre, pre <+: t.names ∧ Jx pre W')) := by
  have hro : Fence.wide.round = none := rfl
  obtain ⟨k, m, s, r⟩ := t
  simp only at hB
  obtain ⟨c0, c1, c2, c3⟩ := hB.c4
  by_cases hk : k = 0
  · subst hk
    refine callsIn_of_wp Try.func62 rfl trivial ?_ rfl
    simp only [Try.ntmps62, List.size_toArray, List.length_cons, List.length_nil, Nat.reduceAdd, Nat.reduceSub, Array.replicate_succ, Array.replicate_zero, List.push_toArray, List.append_toArray, List.nil_append, List.cons_append]
    gi_wp2_with (refine ⟨fun _ _ => trivial, ?_⟩)
    go_end0
    exact ⟨⟨_, rfl⟩, .inl ⟨_, rfl, h0⟩⟩
  have hk1 : (k == 0) = false := by simpa using hk
  have hk2 : (k != 0) = true := by simpa using hk
  have hnm : Tm.names ⟨k, m, s, r⟩ = if Tm.two ⟨k, m, s, r⟩ = true then [s, r] else [s] := by simp [Tm.names, hk]
  obtain ⟨fn, tmps, assign, body, hy, hR⟩ := hY [] s W h0 (by rw [hnm]; split <;> simp)
  have htwo := hide (two_any k m s r)
  have hYh := hide hY
  have hJh := hide hJ
  have hBh := hide hB
  have hN := hide hnm
  clear hY hJ hB hnm
  refine callsIn_of_wp Try.func62 rfl trivial ?_ rfl
  simp only [Try.ntmps62, List.size_toArray, List.length_cons, List.length_nil, Nat.reduceAdd, Nat.reduceSub, Array.replicate_succ, Array.replicate_zero, List.push_toArray, List.append_toArray, List.nil_append, List.cons_append]
  gi_wp2
  refine hR.mono ?_
  rintro e W3 (⟨rfl, hJ3, hk3⟩ | ⟨rfl, hJx3⟩)
  · have hB3 : Blk W3 Bt 34 #[.int .u8 k, .int .i64 m, .int .i64 s, .int .i64 r] := Eq.trans hk3 hBh.out
    clear c0 c1 c2 c3
    obtain ⟨c0, c1, c2, c3⟩ := hB3.c4
    have HB3 := hide hB3
    clear hk3 hB3
    have hz3 := hide (rfl : W3.heap.size = W3.heap.size)
    generalize hbt : Tm.two ⟨k, m, s, r⟩ = bt at *
    gi_wp2_with (refine ⟨fun _ _ => trivial, ?_⟩)
    go_simp
    cases bt with
    | false =>
      gi_wp2_with (refine ⟨trivial, ?_⟩; gi_at_call 63; (with_reducible refine (callsIn_wide.2 (htwo.out _)).mono ?_); rintro e W4 ⟨rfl, hB4⟩)
      go_end0
      refine ⟨⟨_, rfl⟩, .inl ⟨_, ?_, hJh.out _ W3 W4 none hJ3 (grownBy_of_below hB4) (fun _ h => by cases h)⟩⟩
      rw [hN.out]; rfl
    | true =>
      gi_wp2_with (refine ⟨trivial, ?_⟩; gi_at_call 63; (with_reducible refine (callsIn_wide.2 (htwo.out _)).mono ?_); rintro e W4 ⟨rfl, hB4⟩; obtain ⟨fn2, tmps2, assign2, body2, hy2, hR2⟩ := hYh.out _ r W4 (hJh.out _ W3 W4 none hJ3 (grownBy_of_below hB4) (fun _ h => by cases h)) (by rw [hN.out]; simp); have d3 := (hB4.cell (p := ⟨Bt, 3, none⟩) HB3.out.lt).trans c3)
      refine hR2.mono ?_
      rintro e W5 (⟨rfl, hJ5, hk5⟩ | ⟨rfl, hJx5⟩)
      · gi_wp2_with (refine ⟨fun _ _ => trivial, ?_⟩)
        go_end0
        exact ⟨⟨_, rfl⟩, .inl ⟨_, by rw [hN.out]; rfl, hJ5⟩⟩
      · gi_wp2_with (refine ⟨fun _ _ => trivial, ?_⟩)
        go_end0
        exact ⟨⟨_, rfl⟩, .inr ⟨_, by rw [hN.out]; exact ⟨[], rfl⟩, hJx5⟩⟩
  · gi_wp2_with (refine ⟨fun _ _ => trivial, ?_⟩)
    go_end0
    refine ⟨⟨_, rfl⟩, .inr ⟨_, ?_, hJx3⟩⟩
    rw [hN.out]
    split
    · exact ⟨[r], rfl⟩
    · exact ⟨[], rfl⟩
end Go.Proofs.Ytidddeobachjgaa
