/- The seven rules of the layer of checks: the walk of check.rules. -/
import Derived.Test.YtidddeobachjgaaChD
import Derived.Test.YtidddeobachjgaaPlF
namespace Go.Proofs.Ytidddeobachjgaa
open Go.RowKit Go.Shelf

abbrev ptr (b : Nat) : Value := .pointer (some ⟨b, 0, none⟩)
/-- The seven functions that check.rules makes, and what they lean on. -/
structure RulesAt (w : World) (g B L b : Nat) (p : List Sp) (win : Int) : Prop where
  fns : Blk w g 74 #[.func (.func 69) #[] #[ptr B], .func (.func 71) #[] #[ptr B], .func (.func 67) #[] #[ptr B, ptr b], .func (.func 67) #[] #[ptr B, ptr (b + 1)],
    .func (.func 67) #[] #[ptr B, ptr (b + 1 + 1)], .func (.func 75) #[] #[ptr L], .func (.func 67) #[] #[ptr B, ptr (b + 1 + 1 + 1)]]
  pat : PBox w B p win
  long : Blk w L 3 #[.int .i64 (longF p)]
  b3 : Blk w b 81 #[.func (.func 72) #[] #[]]
  b4 : Blk w (b + 1) 81 #[.func (.func 73) #[] #[ptr B]]
  b5 : Blk w (b + 1 + 1) 81 #[.func (.func 74) #[] #[]]
  b7 : Blk w (b + 1 + 1 + 1) 81 #[.func (.func 76) #[] #[ptr B]]
theorem RulesAt.below {w w' : World} {g B L b : Nat} {p : List Sp} {win : Int} (h : RulesAt w g B L b p win) (hb : Below w.heap.size w w') : RulesAt w' g B L b p win :=
  ⟨h.fns.below hb h.fns.lt, h.pat.below hb (Nat.le_refl _), h.long.below hb h.long.lt, h.b3.below hb h.b3.lt, h.b4.below hb h.b4.lt, h.b5.below hb h.b5.lt, h.b7.below hb h.b7.lt⟩

set_option maxRecDepth 100000 in
set_option maxHeartbeats 4000000 in
theorem rules_any (p : List Sp) (win : Int) (sv : Value) (w : World) (h : RdS w w.heap.size sv p) (hr : rightB p win = true) :
    Calls Try.prog 56 #[ptV sv win] w fun e w' => (∃ g B L b, e = .returned (.slice (some ⟨g, 0, none⟩) 7 7) ∧ RulesAt w' g B L b p win) ∧ Below w.heap.size w w' := by
  obtain ⟨h0, h26, hmx⟩ := right_parts hr
  have hbd := hide fun k => long_bd_take hmx h26 k
  clear hmx
  have hrh := hide h
  obtain ⟨A, cap, b, off, rfl, h2, h3, h4, h5⟩ := h
  obtain ⟨rfl, hb⟩ := h4 h0
  clear h4
  go_enter Try.func56, Try.ntmps56
  go_wp2
  go_loopw [11] (fun i wr => ∃ k : Nat, k ≤ p.length ∧ i = .int .i64 k ∧ Below w.heap.size w wr ∧ Blk wr w.heap.size 24 #[.slice (some ⟨b, off, none⟩) p.length cap, .int .i64 win] ∧ Blk wr (w.heap.size + 1) 3 #[.int .i64 (longF (p.take k))]) (fun i _ => p.length - (intOf i).toNat)
  case atStart => exact ⟨0, by omega, rfl, ((Below.refl _ _).alloc (Nat.le_refl _) _).alloc (by simp) _, (Blk.new_ rfl _ _).alloc _, Blk.new_ (by simp) _ _⟩
  case round =>
    obtain ⟨k, hk, rfl, hB, hP, hL⟩ := hrel
    by_cases hlt : k < p.length
    · have hx := List.getElem?_eq_getElem hlt
      obtain ⟨cs, ⟨cv, rfl, hcv⟩, hat⟩ := h5 k p[k] hx
      obtain ⟨c0, c1, c2, c3, c4, c5⟩ := (hat.below hB hb).c6
      have hsn := hide (long_snoc hx)
      obtain ⟨q1, q2⟩ := hbd.out k
      obtain ⟨q3, q4⟩ := hbd.out (k + 1)
      rw [long_snoc hx] at q3 q4
      have hL0 := hL.one
      have hLf := hL.frozen 0
      have hLl := hL.lt
      have hPh := hide hP
      have hBh := hide hB
      have hLh := hide hL
      obtain ⟨Ac, kc, rfl⟩ : ∃ A cap, cv = .slice A p[k].cmps.length cap := by
        obtain ⟨A, cap, b, off, e, -⟩ := hcv
        exact ⟨A, cap, e⟩
      clear hat h5 hcv hP hB hL
      generalize hs : p[k] = s at *
      generalize longF (p.take k) = x at *
      clear hs
      obtain ⟨neg, kind, mn, mx, strict, cmps⟩ := s
      simp only at c0 c1 c2 c3 c4 c5 hsn q3 q4
      have hw1 : IntKind.i64.wrap ((k : Int) + 1) = (k : Int) + 1 := IntWalk.i64_in _ (by omega)
      cases neg with
      | true =>
        simp only [if_true] at hsn
        go_wp2
        refine ⟨⟨k + 1, by omega, rfl, hBh.out.alloc hBh.out.size _, hPh.out.alloc _, ?_⟩, by simp [intOf]; omega⟩
        rw [hsn.out, Int.add_zero]
        exact hLh.out.alloc _
      | false =>
        simp only [Bool.false_eq_true, if_false] at hsn q3 q4
        have hw2 : IntKind.i64.wrap (x + mx) = x + mx := IntWalk.i64_in _ (by omega)
        go_wp2
        refine ⟨⟨k + 1, by omega, rfl, (hBh.out.setCell (p := ⟨w.heap.size + 1, 0, none⟩) (by simp) _).alloc (by simpa using hBh.out.size) _, (hPh.out.far (p := ⟨w.heap.size + 1, 0, none⟩) (by simp) _).alloc _, ?_⟩, by simp [intOf]; omega⟩
        rw [hsn.out]
        exact (hLh.out.set_ 0 _).alloc _
    · obtain rfl : k = p.length := by omega
      rw [List.take_of_length_le (Nat.le_refl _)] at hL
      have hBh := hide hB
      have hLh := hide hL
      have hPh := hide hP
      clear h5 hB hL hP
      go_wp2
      go_ret
      refine ⟨⟨wr.heap.size + 1 + 1 + 1 + 1, w.heap.size, w.heap.size + 1, wr.heap.size, rfl, ⟨Blk.new_ (by simp) _ _, ⟨_, ((((hPh.out.alloc _).alloc _).alloc _).alloc _).alloc _, hrh.out.below ?hB5 (Below.size ?hB5)⟩, ((((hLh.out.alloc _).alloc _).alloc _).alloc _).alloc _,
        ((((Blk.new_ rfl _ _).alloc _).alloc _).alloc _).alloc _, (((Blk.new_ (by simp) _ _).alloc _).alloc _).alloc _, ((Blk.new_ (by simp) _ _).alloc _).alloc _, (Blk.new_ (by simp) _ _).alloc _⟩⟩, ?hB5⟩
      have hz := hBh.out.size
      exact ((((hBh.out.alloc hz _).alloc (by simp; omega) _).alloc (by simp; omega) _).alloc (by simp; omega) _).alloc (by simp; omega) _
end Go.Proofs.Ytidddeobachjgaa
