/- Where the last positive step stands; tails and heads; which patterns may be: the walks. -/
import Derived.Test.YtidddeobachjgaaChG
import Derived.Test.YtidddeobachjgaaLibQ
import Derived.Test.YtidddeobachjgaaTrJ
namespace Go.Proofs.Ytidddeobachjgaa
open Go.RowKit
attribute [local go_sem] grown_cell grown_frozen

theorem lastPos_bd (p : List Sp) (n : Nat) : -1 ≤ lastPos p n ∧ lastPos p n < n := by
  induction n with
  | zero => simp [lastPos]
  | succ n ih => simp only [lastPos]; split <;> omega

set_option maxRecDepth 100000 in
set_option maxHeartbeats 1000000 in
theorem last_any (p : List Sp) (v : Value) (w : World) (h : RdS w w.heap.size v p) :
    Calls Try.prog 58 #[v] w fun e w' => e = .returned (.int .i64 (lastPos p p.length)) ∧ w = w' := by
  obtain ⟨A, cap, b, off, rfl, h2, h3, h4, h5⟩ := h
  go_enter Try.func58, Try.ntmps58
  go_wp2
  go_loop [3] (fun i => ∃ x : Int, -1 ≤ x ∧ x < p.length ∧ i = .int .i64 x ∧ Hid (lastPos p p.length = lastPos p (x + 1).toNat)) (fun i => (intOf i + 1).toNat)
  case atStart => exact ⟨_, by omega, by omega, rfl, hide (by congr 1; omega)⟩
  case round =>
    obtain ⟨x, hx1, hx2, rfl, hl⟩ := hrel
    by_cases hx : x = -1
    · subst hx
      clear h4 h5 hx1 hx2
      go_wp2
      go_ret
      exact ⟨by rw [hl.out]; rfl, rfl⟩
    · obtain ⟨m, rfl⟩ : ∃ m : Nat, x = m := ⟨x.toNat, by omega⟩
      have hm : m < p.length := by omega
      obtain ⟨rfl, hb⟩ := h4 (by omega)
      have hx := List.getElem?_eq_getElem hm
      obtain ⟨cs, ⟨cv, rfl, -⟩, hat⟩ := h5 m p[m] hx
      obtain ⟨c0, c1, c2, c3, c4, c5⟩ := hat.c6
      have hst : stepAt p m = p[m] := by simp [stepAt, hx]
      have hl2 : Hid (lastPos p p.length = if p[m].neg then lastPos p m else m) := hide (by
        rw [hl.out, show ((m : Int) + 1).toNat = m + 1 by omega, lastPos, hst])
      clear hl hat h5 hx hst hx1
      generalize p[m] = s at *
      obtain ⟨neg, kind, mn, mx, strict, cmps⟩ := s
      simp only at c0 c1 c2 c3 c4 c5 hl2
      cases neg with
      | true =>
        go_wp2
        go_round
        case rel => exact ⟨(m : Int) - 1, by omega, by omega, rfl, hide (by rw [hl2.out, show ((m : Int) - 1 + 1).toNat = m by omega]; rfl)⟩
        case measure => simp [intOf]
      | false =>
        go_wp2
        go_ret
        exact ⟨by rw [hl2.out]; rfl, rfl⟩

theorem RdL.take {α : Type} {sz : Nat} {cells : World → Nat → α → List Value → Prop} {w : World} {B : Nat} {A : Option Addr} {n cap : Nat} {xs : List α} (h : RdL sz cells w B (.slice A n cap) xs) (k : Nat) (hk : k ≤ xs.length) :
    RdL sz cells w B (.slice A k cap) (xs.take k) := by
  obtain ⟨A', cap', b, off, e, h2, h3, h4, h5⟩ := h
  injection e with e1 e2 e3
  subst e1 e3
  refine ⟨A, cap, b, off, by simp; omega, by simp; omega, h3, fun h0 => h4 (by simp at h0; omega), fun i x hx => h5 i x ?_⟩
  rw [List.getElem?_take] at hx
  split at hx
  · exact hx
  · cases hx
theorem lastPos_take (p : List Sp) (n m : Nat) (h : m ≤ n) : lastPos (p.take n) m = lastPos p m := by
  induction m with
  | zero => rfl
  | succ m ih =>
    have : stepAt (p.take n) m = stepAt p m := by
      simp only [stepAt, List.getD_eq_getElem?_getD, List.getElem?_take, if_pos (show m < n by omega)]
    simp only [lastPos, this, ih (by omega)]

set_option maxRecDepth 100000 in
set_option maxHeartbeats 1000000 in
theorem tail_any (p : List Sp) (win : Int) (v : Value) (w : World) (h : RdS w w.heap.size v p) :
    Calls Try.prog 32 #[ptV v win] w fun e w' => e = .returned (.int .i64 (tailF p)) ∧ Below w.heap.size w w' := by
  have hl := RdL.lenle h
  have hlast := hide fun w1 (hb : Below w.heap.size w w1) (hz : w.heap.size ≤ w1.heap.size) => below_of_same (last_any p v w1 (h.below hb hz))
  obtain ⟨A, cap, rfl⟩ := h.len
  have hbd := lastPos_bd p p.length
  have htl : Hid (tailF p = (p.length : Int) - 1 - lastPos p p.length) := hide rfl
  clear h
  generalize lastPos p p.length = x at *
  generalize p.length = n at *
  obtain ⟨b1, b2⟩ := hbd
  have u1 : IntKind.i64.wrap ((n : Int) - 1) = (n : Int) - 1 := IntWalk.i64_in _ (by omega)
  have u2 : IntKind.i64.wrap ((n : Int) - 1 - x) = (n : Int) - 1 - x := IntWalk.i64_in _ (by omega)
  go_enter Try.func32, Try.ntmps32
  go_wp2
  refine wp_region_grown (w.heap.size + 1) (by simp) (by kernel_rfl) (by kernel_rfl) ?_
  repeat (any_goals (first | go_big_quiet_step ((go_at_call 58; (with_reducible exact calls_grown' (by simp) (fun w1 hb hz => hlast.out w1 (((Below.refl _ _).alloc (Nat.le_refl _) _).trans (hb.mono (by omega))) (by omega))))) | quiet_step (fail)))
  refine wpQuiet_nil ?_; intro _ hw'; obtain ⟨nq, hw''⟩ := hw'; subst hw''
  go_wp2
  go_ret
  exact ⟨by rw [htl.out]; rfl, ((Below.refl _ _).alloc (Nat.le_refl _) _).trans ((grown_below _ _ _).mono (by omega))⟩

set_option maxRecDepth 100000 in
set_option maxHeartbeats 1000000 in
theorem head_any (p : List Sp) (win i : Int) (v : Value) (w : World) (h : RdS w w.heap.size v p) :
    Calls Try.prog 34 #[ptV v win, .int .i64 i] w fun e w' => e = .returned (.int .i64 (headF p i)) ∧ Below w.heap.size w w' := by
  have hll := RdL.lenle h
  have hrh := hide h
  obtain ⟨A, cap, rfl⟩ := h.len
  by_cases h0 : i < 0
  · have hv : headF p i = -1 := by simp [headF]; omega
    rw [hv]
    clear h hrh hv
    go_enter Try.func34, Try.ntmps34
    go_wp2
    go_ret
    exact ⟨rfl, (Below.refl _ _).alloc (Nat.le_refl _) _⟩
  by_cases h1 : (p.length : Int) ≤ i
  · have hv : headF p i = -1 := by simp [headF]; omega
    rw [hv]
    clear h hrh hv
    go_enter Try.func34, Try.ntmps34
    go_wp2
    go_ret
    exact ⟨rfl, (Below.refl _ _).alloc (Nat.le_refl _) _⟩
  obtain ⟨k, rfl⟩ : ∃ k : Nat, i = k := ⟨i.toNat, by omega⟩
  have hk : k < p.length := by omega
  have hcap : p.length ≤ cap ∧ cap ≤ 9223372036854775807 := by
    obtain ⟨A', cap', b, off, e, h2, h3, -⟩ := h
    injection e with e1 e2 e3
    subst e3
    exact ⟨h2, h3⟩
  obtain ⟨hc1, hc2⟩ := hcap
  have hlast := hide fun w1 (hb : Below w.heap.size w w1) => last_any (p.take k) (.slice A k cap) w1 (RdS.below (RdL.take h k (by omega)) hb hb.size)
  have hv : headF p k = lastPos (p.take k) (p.take k).length := by
    have e1 : (p.take k).length = k := by simp; omega
    have e2 : 0 ≤ (k : Int) ∧ (k : Int) < p.length := by omega
    rw [e1, lastPos_take p k k (Nat.le_refl _), headF, if_pos e2]
    rfl
  rw [hv]
  clear h hrh hv h0 h1
  generalize lastPos (p.take k) (p.take k).length = x at *
  have hk' : (k : Int) < p.length := by omega
  go_enter Try.func34, Try.ntmps34
  go_wp2_with (go_at_call 58; (with_reducible refine (hlast.out _ ((Below.refl _ _).alloc (Nat.le_refl _) _)).mono ?_); rintro e w1 ⟨rfl, rfl⟩)
  go_ret
  exact ⟨rfl, (Below.refl _ _).alloc (Nat.le_refl _) _⟩

set_option maxRecDepth 100000 in
theorem cright_any (p : List Sp) (win : Int) (v : Value) (w : World) (h : RdS w w.heap.size v p) :
    Calls Try.prog 30 #[ptV v win] w fun e w' => e = .returned (.bool (mayB p win)) ∧ Below w.heap.size w w' := by
  have hc := hide fun w1 (hb : Below w.heap.size w w1) => check_any p win v w1 (h.below hb hb.size)
  obtain ⟨A, cap, rfl⟩ := h.len
  have hv : Hid (mayB p win = ((checkF p win).2.2 == 0)) := hide (by simp [mayB]; rfl)
  clear h
  generalize checkF p win = t at *
  obtain ⟨a, b, c⟩ := t
  simp only at hc hv
  go_enter Try.func30, Try.ntmps30
  go_wp2_with (go_at_call 28; (with_reducible refine (hc.out _ ((Below.refl _ _).alloc (Nat.le_refl _) _)).mono ?_); rintro e w1 ⟨rfl, hB1⟩)
  go_ret
  exact ⟨by rw [hv.out]; rfl, ((Below.refl _ _).alloc (Nat.le_refl _) _).trans (hB1.mono (by simp))⟩
end Go.Proofs.Ytidddeobachjgaa
