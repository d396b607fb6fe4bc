/- When two patterns are the same: the walks of the reference's step and Same. -/
import Derived.Test.YtidddeobachjgaaTrH
namespace Go.Proofs.Ytidddeobachjgaa
open Go.RowKit
attribute [local go_sem] grown_cell grown_frozen

set_option maxRecDepth 100000 in
set_option maxHeartbeats 4000000 in
theorem rstep_any (a b : Sp) (av bv : Value) (w : World) (ha : RdC w w.heap.size av a.cmps) (hb : RdC w w.heap.size bv b.cmps) :
    Calls Try.prog 54 #[spV a av, spV b bv] w fun e w' => e = .returned (.bool (decide (a = b))) ∧ Below w.heap.size w w' := by
  obtain ⟨an, ak, am, ax, ag, xs⟩ := a
  obtain ⟨bn, bk, bm, bx, bg, ys⟩ := b
  simp only at ha hb
  by_cases h1 : an = bn
  rotate_left
  · rw [sp_ne (fun h => h1 h.1)]
    have h1' : (an == bn) = false := by simpa using h1
    have h1'' : (an != bn) = true := by simpa using h1
    clear h1 ha hb
    go_enter Try.func54, Try.ntmps54
    go_wp2
    go_ret
    exact ⟨rfl, ((Below.refl _ _).alloc (Nat.le_refl _) _).alloc (by simp) _⟩
  subst h1
  by_cases h2 : ak = bk
  rotate_left
  · rw [sp_ne (fun h => h2 (by obtain ⟨q1, q2, q3, q4, q5, q6⟩ := h; assumption))]
    have h1' : (ak == bk) = false := by simpa using h2
    have h1'' : (ak != bk) = true := by simpa using h2
    clear h2 ha hb
    go_enter Try.func54, Try.ntmps54
    go_wp2
    go_ret
    exact ⟨rfl, ((Below.refl _ _).alloc (Nat.le_refl _) _).alloc (by simp) _⟩
  subst h2
  by_cases h3 : am = bm
  rotate_left
  · rw [sp_ne (fun h => h3 (by obtain ⟨q1, q2, q3, q4, q5, q6⟩ := h; assumption))]
    have h1' : (am == bm) = false := by simpa using h3
    have h1'' : (am != bm) = true := by simpa using h3
    clear h3 ha hb
    go_enter Try.func54, Try.ntmps54
    go_wp2
    go_ret
    exact ⟨rfl, ((Below.refl _ _).alloc (Nat.le_refl _) _).alloc (by simp) _⟩
  subst h3
  by_cases h4 : ax = bx
  rotate_left
  · rw [sp_ne (fun h => h4 (by obtain ⟨q1, q2, q3, q4, q5, q6⟩ := h; assumption))]
    have h1' : (ax == bx) = false := by simpa using h4
    have h1'' : (ax != bx) = true := by simpa using h4
    clear h4 ha hb
    go_enter Try.func54, Try.ntmps54
    go_wp2
    go_ret
    exact ⟨rfl, ((Below.refl _ _).alloc (Nat.le_refl _) _).alloc (by simp) _⟩
  subst h4
  by_cases h5 : ag = bg
  rotate_left
  · rw [sp_ne (fun h => h5 (by obtain ⟨q1, q2, q3, q4, q5, q6⟩ := h; assumption))]
    have h1' : (ag == bg) = false := by simpa using h5
    have h1'' : (ag != bg) = true := by simpa using h5
    clear h5 ha hb
    go_enter Try.func54, Try.ntmps54
    go_wp2
    go_ret
    exact ⟨rfl, ((Below.refl _ _).alloc (Nat.le_refl _) _).alloc (by simp) _⟩
  subst h5
  rw [show decide ((⟨an, ak, am, ax, ag, xs⟩ : Sp) = ⟨an, ak, am, ax, ag, ys⟩) = decide (xs = ys) by simp]
  obtain ⟨A, cap, b, off, rfl, h2, h3, h4, h5⟩ := ha
  obtain ⟨A', cap', b', off', rfl, g2, g3, g4, g5⟩ := hb
  by_cases hne : xs.length ≠ ys.length
  · have hf : decide (xs = ys) = false := by simp; rintro rfl; exact hne rfl
    have hd : ((xs.length : Int) == ys.length) = false := by simp; omega
    have hd' : ((xs.length : Int) != ys.length) = true := by simp; omega
    clear h4 h5 g4 g5 hne
    rw [hf]
    go_enter Try.func54, Try.ntmps54
    go_wp2
    go_ret
    exact ⟨rfl, ((Below.refl _ _).alloc (Nat.le_refl _) _).alloc (by simp) _⟩
  have hl := hide (Decidable.not_not.1 hne)
  have hd : ((xs.length : Int) == ys.length) = true := by simp [hl.out]
  have hd' : ((xs.length : Int) != ys.length) = false := by simp [hl.out]
  clear hne
  go_enter Try.func54, Try.ntmps54
  go_wp2
  clear hd hd'
  go_loopw [5] (fun i wr => ∃ k : Nat, k ≤ xs.length ∧ i = .int .i64 k ∧ Hid (xs.take k = ys.take k) ∧ Below w.heap.size w wr ∧ wr.cell? ⟨w.heap.size, 5, none⟩ = some (.slice A xs.length cap) ∧ wr.cell? ⟨w.heap.size + 1, 5, none⟩ = some (.slice A' ys.length cap')) (fun i _ => xs.length - (intOf i).toNat)
  case atStart => exact ⟨0, by omega, rfl, hide rfl, ((Below.refl _ _).alloc (Nat.le_refl _) _).alloc (by simp) _, by simp, by simp⟩
  case round =>
    obtain ⟨k, hk, rfl, heq, hB, e5, f5⟩ := hrel
    by_cases hlt : k < xs.length
    · have hlt' : k < ys.length := by have := hl.out; omega
      obtain ⟨rfl, hb⟩ := h4 (by omega)
      obtain ⟨rfl, hb'⟩ := g4 (by omega)
      have hx := List.getElem?_eq_getElem hlt
      have hy := List.getElem?_eq_getElem hlt'
      obtain ⟨vs, ⟨rfl, -⟩, hat⟩ := h5 k xs[k] hx
      obtain ⟨us, ⟨rfl, -⟩, hat'⟩ := g5 k ys[k] hy
      obtain ⟨c0, c1, c2, c3, c4, c5, c6, c7, c8⟩ := (hat.below hB hb).c9
      obtain ⟨d0, d1, d2, d3, d4, d5, d6, d7, d8⟩ := (hat'.below hB hb').c9
      have hno : xs[k] ≠ ys[k] → Hid (decide (xs = ys) = false) := fun h => hide (by simpa using ne_at hx hy h)
      have hyes : xs[k] = ys[k] → Hid (xs.take (k + 1) = ys.take (k + 1)) := fun h => hide (take_snoc hx (h ▸ hy) heq.out)
      have hno := hide hno
      have hyes := hide hyes
      have he := eq_cmV xs[k] ys[k]
      clear hat hat' h5 g5 hx hy heq
      generalize xs[k] = c at *
      generalize ys[k] = d at *
      have hz := hB.size
      by_cases hcd : c = d
      · have hn := hyes.out hcd
        simp only [hcd, decide_true] at he
        subst hcd
        clear hno hyes
        go_wp2
        go_quiet (fail)
        go_wp2
        exact ⟨⟨k + 1, by omega, rfl, hn, bdrewN hB _, e5, f5⟩, by simp [intOf]; omega⟩
      · have hn := hno.out hcd
        simp only [hcd, decide_false] at he
        clear hno hyes
        go_wp2
        go_quiet (fail)
        go_wp2
        go_ret
        exact ⟨ret_bool hn.out.symm, bdrewN hB _⟩
    · obtain rfl : k = xs.length := by omega
      have hi : Hid (decide (xs = ys) = true) := hide (by simpa using eq_of_take hl.out heq.out)
      clear h4 h5 g4 g5
      go_wp2
      go_ret
      exact ⟨ret_bool hi.out.symm, hB⟩

set_option maxRecDepth 100000 in
set_option maxHeartbeats 2000000 in
theorem rsame_any (p q : List Sp) (wp wq : Int) (v u : Value) (w : World) (hv : RdS w w.heap.size v p) (hu : RdS w w.heap.size u q) :
    Calls Try.prog 25 #[ptV v wp, ptV u wq] w fun e w' => e = .returned (.bool (sameB p wp q wq)) ∧ Below w.heap.size w w' := by
  obtain ⟨A, cap, b, off, rfl, h2, h3, h4, h5⟩ := hv
  obtain ⟨A', cap', b', off', rfl, g2, g3, g4, g5⟩ := hu
  by_cases hne : p.length ≠ q.length
  · have hf : sameB p wp q wq = false := by simp [sameB]; rintro rfl rfl; exact hne rfl
    have hd : ((p.length : Int) == q.length) = false := by simp; omega
    have hd' : ((p.length : Int) != q.length) = true := by simp; omega
    clear h4 h5 g4 g5 hne
    rw [hf]
    go_enter Try.func25, Try.ntmps25
    go_wp2
    go_ret
    exact ⟨rfl, ((Below.refl _ _).alloc (Nat.le_refl _) _).alloc (by simp) _⟩
  have hl := hide (Decidable.not_not.1 hne)
  have hd : ((p.length : Int) == q.length) = true := by simp [hl.out]
  have hd' : ((p.length : Int) != q.length) = false := by simp [hl.out]
  clear hne
  by_cases hw : wp = wq
  rotate_left
  · have hf : sameB p wp q wq = false := by simp [sameB, hw]
    have h1' : (wp == wq) = false := by simpa using hw
    have h1'' : (wp != wq) = true := by simpa using hw
    clear h4 h5 g4 g5 hw
    rw [hf]
    go_enter Try.func25, Try.ntmps25
    go_wp2
    go_ret
    exact ⟨rfl, ((Below.refl _ _).alloc (Nat.le_refl _) _).alloc (by simp) _⟩
  subst hw
  rw [show sameB p wp q wp = decide (p = q) by simp [sameB]]
  go_enter Try.func25, Try.ntmps25
  go_wp2
  clear hd hd'
  go_loopw [5] (fun i wr => ∃ k : Nat, k ≤ p.length ∧ i = .int .i64 k ∧ Hid (p.take k = q.take k) ∧ Below w.heap.size w wr ∧ wr.cell? ⟨w.heap.size, 0, none⟩ = some (.slice A p.length cap) ∧ wr.cell? ⟨w.heap.size + 1, 0, none⟩ = some (.slice A' q.length cap') ∧ w.heap.size + 2 ≤ wr.heap.size) (fun i _ => p.length - (intOf i).toNat)
  case atStart => exact ⟨0, by omega, rfl, hide rfl, ((Below.refl _ _).alloc (Nat.le_refl _) _).alloc (by simp) _, by simp, by simp, by simp⟩
  case round =>
    obtain ⟨k, hk, rfl, heq, hB, e0, f0, hz2⟩ := hrel
    by_cases hlt : k < p.length
    · have hlt' : k < q.length := by have := hl.out; omega
      obtain ⟨rfl, hb⟩ := h4 (by omega)
      obtain ⟨rfl, hb'⟩ := g4 (by omega)
      have hx := List.getElem?_eq_getElem hlt
      have hy := List.getElem?_eq_getElem hlt'
      obtain ⟨vs, ⟨cv, rfl, hcv⟩, hat⟩ := h5 k p[k] hx
      obtain ⟨us, ⟨cu, rfl, hcu⟩, hat'⟩ := g5 k q[k] hy
      obtain ⟨c0, c1, c2, c3, c4, c5⟩ := (hat.below hB hb).c6
      obtain ⟨d0, d1, d2, d3, d4, d5⟩ := (hat'.below hB hb').c6
      have hb1 : b' < wr.heap.size := Nat.lt_of_lt_of_le hb' hB.size
      have hb2 : b < wr.heap.size := Nat.lt_of_lt_of_le hb hB.size
      have hno : p[k] ≠ q[k] → Hid (decide (p = q) = false) := fun h => hide (by simpa using ne_at hx hy h)
      have hyes : p[k] = q[k] → Hid (p.take (k + 1) = q.take (k + 1)) := fun h => hide (take_snoc hx (h ▸ hy) heq.out)
      have hno := hide hno
      have hyes := hide hyes
      have hcall := hide fun w1 (hb1 : Below wr.heap.size wr w1) (hz1 : wr.heap.size ≤ w1.heap.size) => rstep_any p[k] q[k] _ _ w1 ((hcv.below hB hB.size).below hb1 hz1) ((hcu.below hB hB.size).below hb1 hz1)
      clear hat hat' h5 g5 hx hy heq hcv hcu
      generalize p[k] = c at *
      generalize q[k] = d at *
      have hz := hB.size
      have hza : w.heap.size < wr.heap.size := by omega
      have hzb : w.heap.size + 1 < wr.heap.size := by omega
      by_cases hcd : c = d
      · have hn := hyes.out hcd
        subst hcd
        simp only [decide_true] at hcall
        clear hno hyes
        go_wp2
        refine wp_region_grown wr.heap.size (Nat.le_refl _) (by kernel_rfl) (by kernel_rfl) ?_
        repeat (any_goals (first | go_big_quiet_step ((go_at_call 54; exact calls_grown' (Nat.le_refl _) hcall.out)) | quiet_step (fail)))
        refine wpQuiet_nil ?_; intro _ hw'; obtain ⟨nq, hw''⟩ := hw'; subst hw''
        go_wp2
        exact ⟨⟨k + 1, by omega, rfl, hn, hB.trans ((grown_below _ _ _).mono hz), (grown_cell 0 hza).trans e0, (grown_cell 0 hzb).trans f0, by have := grown_size wr.heap.size wr nq (Nat.le_refl _); omega⟩, by simp [intOf]; omega⟩
      · have hn := hno.out hcd
        simp only [hcd, decide_false] at hcall
        clear hno hyes hcd
        go_wp2
        refine wp_region_grown wr.heap.size (Nat.le_refl _) (by kernel_rfl) (by kernel_rfl) ?_
        repeat (any_goals (first | go_big_quiet_step ((go_at_call 54; exact calls_grown' (Nat.le_refl _) hcall.out)) | quiet_step (fail)))
        refine wpQuiet_nil ?_; intro _ hw'; obtain ⟨nq, hw''⟩ := hw'; subst hw''
        go_wp2
        go_ret
        exact ⟨ret_bool hn.out.symm, hB.trans ((grown_below _ _ _).mono hz)⟩
    · obtain rfl : k = p.length := by omega
      have hi : Hid (decide (p = q) = true) := hide (by simpa using eq_of_take hl.out heq.out)
      clear h4 h5 g4 g5
      go_wp2
      go_ret
      exact ⟨ret_bool hi.out.symm, hB⟩
end Go.Proofs.Ytidddeobachjgaa
