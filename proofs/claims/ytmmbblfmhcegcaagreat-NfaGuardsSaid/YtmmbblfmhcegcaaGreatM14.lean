/- Several texts of one proof: What the layer of checks answers: the walk of check.Check. | Where the last positive step stands; tails and heads; which patterns may be: the walks. | Plain laws: tails and heads. | Plain laws: which rule is told; a part of the steps that stands first. | Plain laws: what a pattern that may be has. -/
import Derived.Test.YtmmbblfmhcegcaaGreatM13
import Derived.Test.YtmmbblfmhcegcaaGreatM03

namespace Go.Proofs.YtmmbblfmhcegcaaGreat
open Go.RowKit Go.Shelf

theorem tuple3 {a b c : Int} {t : Int × Int × Int} (h : t = (a, b, c)) : (Ending.returned (.tuple #[.int .i64 a, .int .i64 b, .int .i64 c])) = .returned (.tuple #[.int .i64 t.1, .int .i64 t.2.1, .int .i64 t.2.2]) := by rw [h]

theorem then_normal {K : Act → World → Prop} {Q : Exit → Act → World → Prop} {a : Act} {w : World} (h : K a w) : Exit.then K Q .normal a w := h
theorem cf_next (p : List Sp) (win : Int) (r n : Nat) (h : broken p win r < 0) : checkFrom p win r (n + 1) = checkFrom p win (r + 1) n := by simp [checkFrom, h]
theorem cf_stop (p : List Sp) (win : Int) (r n : Nat) (h : ¬ broken p win r < 0) : checkFrom p win r (n + 1) = ((r : Int), broken p win r, 110) := by simp [checkFrom, h]

set_option maxRecDepth 100000 in
set_option maxHeartbeats 4000000 in
theorem check_any (p : List Sp) (win : Int) (sv : Value) (w : World) (h : RdS w w.heap.size sv p) :
    Calls Tryz.prog 37 #[ptV sv win] w fun e w' => e = .returned (.tuple #[.int .i64 (checkF p win).1, .int .i64 (checkF p win).2.1, .int .i64 (checkF p win).2.2]) ∧ Below w.heap.size w w' := by
  have hrh := hide h
  obtain ⟨A, cap, hsv⟩ : ∃ A cap, sv = .slice A p.length cap := by
    obtain ⟨A, cap, b, off, e, -⟩ := h
    exact ⟨A, cap, e⟩
  subst hsv
  clear h
  have hright := hide fun w1 (hb : Below w.heap.size w w1) => right_any p win (.slice A p.length cap) w1 (hrh.out.below hb hb.size)
  have hrules := hide fun w1 (hb : Below w.heap.size w w1) (hr : rightB p win = true) => rules_any p win (.slice A p.length cap) w1 (hrh.out.below hb hb.size) hr
  cases hr : rightB p win with
  | false =>
    have hv : checkF p win = (0, 0, 2) := by simp [checkF, hr]
    rw [hv]
    rw [hr] at hright
    clear hv hrules
    go_enter Tryz.func37, Tryz.ntmps37
    go_wp2
    refine wp_scope_fwd 0 rfl ?_
    go_wp2_with (go_at_call 43; (with_reducible refine (hright.out _ ((Below.refl _ _).alloc (Nat.le_refl _) _)).mono ?_); rintro e w1 ⟨rfl, hB1⟩)
    refine ret_jump ?_
    go_ret3
    exact ⟨rfl, ((Below.refl _ _).alloc (Nat.le_refl _) _).trans (hB1.mono (by simp))⟩
  | true =>
    have hv : checkF p win = checkFrom p win 1 7 := by simp [checkF, hr]
    rw [hv]
    have hrr := hide hr
    rw [hr] at hright
    clear hv hr
    go_enter Tryz.func37, Tryz.ntmps37
    go_wp2
    refine wp_scope_jumps 0 (fun a' w' => ∃ g B L b, RulesAt w' g B L b p win ∧ Below w.heap.size w w' ∧ ∃ (r : Nat) (x : Int) (y6 y7 y8 y9 y10 y11 y12 y13 y14 y15 y16 y17 y18 y19 y20 y21 y22 y23 : Value), 1 ≤ r ∧ r ≤ 7 ∧ checkFrom p win 1 7 = checkFrom p win (r + 1) (7 - r) ∧
      a' = { tmps := #[ptV (.slice A p.length cap) win, .pointer (some ⟨w.heap.size, 0, none⟩), .int .i64 r, .int .i64 x, .int .i64 0, .slice (some ⟨g, 0, none⟩) 7 7, y6, y7, y8, y9, y10, y11, y12, y13, y14, y15, y16, y17, y18, y19, y20, y21, y22, y23, undef, undef, undef], defers := [] })
      (fun a' _ => 8 - (intOf (a'.tmps.getD 2 undef)).toNat) rfl ?first ?pass
    case first =>
      go_wp2_with (first | (go_at_call 43; (with_reducible refine (hright.out _ ((Below.refl _ _).alloc (Nat.le_refl _) _)).mono ?_); rintro e w1 ⟨rfl, hB1⟩; have hB0 := hide (((Below.refl w.heap.size w).alloc (Nat.le_refl _) _).trans (hB1.mono (by simp))); have hbx := hB1.cell (p := ⟨w.heap.size, 0, none⟩) (by simp); have hbx1 := hB1.cell (p := ⟨w.heap.size, 1, none⟩) (by simp); have hlt1 := hB1.size; clear hB1; simp at hbx hbx1 hlt1) | (go_at_call 44; (with_reducible refine (hrules.out _ hB0.out hrr.out).mono ?_); rintro e w2 ⟨⟨g, B, L, b, rfl, hR⟩, hB2⟩; have hRh := hide hR; have hB3 := hide (hB0.out.trans (hB2.mono hB0.out.size)); have f0 := hR.fns.cell 0; clear hB2))
      have hcal := hide (rule_at1 hRh.out)
      have hn := hide (cf_next p win 1 6)
      have hs := hide (cf_stop p win 1 6)
      clear hR hright hrules
      generalize broken p win 1 = x at *
      refine wp_label (then_normal ?_)
      go_at_K
      by_cases hx : x < 0
      · go_wp2_with (go_at_call 62; (with_reducible refine hcal.out.mono ?_); rintro e w3 ⟨rfl, hB4⟩)
        refine wp_goto ⟨rfl, ?_⟩
        exact ⟨g, B, L, b, hRh.out.below hB4, hB3.out.trans (hB4.mono hB3.out.size), 1, x, _, _, _, _, _, _, _, _, _, _, _, _, _, _, _, _, _, _, by omega, by omega, hn.out hx, rfl⟩
      · go_wp2_with (go_at_call 62; (with_reducible refine hcal.out.mono ?_); rintro e w3 ⟨rfl, hB4⟩)
        refine ret_jump ?_
        go_ret3
        exact ⟨tuple3 (hs.out hx), hB3.out.trans (hB4.mono hB3.out.size)⟩
    case pass =>
      clear hright hrules
      rintro a w2 ⟨g, B, L, b, hR, hB3, r, x, y6, y7, y8, y9, y10, y11, y12, y13, y14, y15, y16, y17, y18, y19, y20, y21, y22, y23, h1, h7, heq, rfl⟩
      have hRh := hide hR
      have hB3 := hide hB3
      have heqh := hide heq
      have hz : w.heap.size ≤ w2.heap.size := hB3.out.size
      obtain rfl | rfl | rfl | rfl | rfl | rfl | rfl : r = 1 ∨ r = 2 ∨ r = 3 ∨ r = 4 ∨ r = 5 ∨ r = 6 ∨ r = 7 := by omega
      · have hcal := hide (rule_at2 hRh.out hrr.out)
        have hn := hide (cf_next p win 2 5)
        have hs := hide (cf_stop p win 2 5)
        have f0 := hR.fns.cell 1
        clear hR heq
        generalize broken p win 2 = z at *
        by_cases hx : z < 0
        · go_wp2_with (go_at_call 64; (with_reducible refine hcal.out.mono ?_); rintro e w3 ⟨rfl, hB4⟩)
          refine wp_goto ⟨rfl, ?_⟩
          exact ⟨⟨g, B, L, b, hRh.out.below hB4, hB3.out.trans (hB4.mono hz), 2, z, _, _, _, _, _, _, _, _, _, _, _, _, _, _, _, _, _, _, by omega, by omega, heqh.out.trans (hn.out hx), rfl⟩, by simp [intOf]⟩
        · go_wp2_with (go_at_call 64; (with_reducible refine hcal.out.mono ?_); rintro e w3 ⟨rfl, hB4⟩)
          refine ret_jump ?_
          go_ret3
          exact ⟨tuple3 (heqh.out.trans (hs.out hx)), hB3.out.trans (hB4.mono hz)⟩
      · have hcal := hide (rule_at3 hRh.out)
        have hn := hide (cf_next p win 3 4)
        have hs := hide (cf_stop p win 3 4)
        have f0 := hR.fns.cell 2
        clear hR heq
        generalize broken p win 3 = z at *
        by_cases hx : z < 0
        · go_wp2_with (go_at_call 60; (with_reducible refine hcal.out.mono ?_); rintro e w3 ⟨rfl, hB4⟩)
          refine wp_goto ⟨rfl, ?_⟩
          exact ⟨⟨g, B, L, b, hRh.out.below hB4, hB3.out.trans (hB4.mono hz), 3, z, _, _, _, _, _, _, _, _, _, _, _, _, _, _, _, _, _, _, by omega, by omega, heqh.out.trans (hn.out hx), rfl⟩, by simp [intOf]⟩
        · go_wp2_with (go_at_call 60; (with_reducible refine hcal.out.mono ?_); rintro e w3 ⟨rfl, hB4⟩)
          refine ret_jump ?_
          go_ret3
          exact ⟨tuple3 (heqh.out.trans (hs.out hx)), hB3.out.trans (hB4.mono hz)⟩
      · have hcal := hide (rule_at4 hRh.out)
        have hn := hide (cf_next p win 4 3)
        have hs := hide (cf_stop p win 4 3)
        have f0 := hR.fns.cell 3
        clear hR heq
        generalize broken p win 4 = z at *
        by_cases hx : z < 0
        · go_wp2_with (go_at_call 60; (with_reducible refine hcal.out.mono ?_); rintro e w3 ⟨rfl, hB4⟩)
          refine wp_goto ⟨rfl, ?_⟩
          exact ⟨⟨g, B, L, b, hRh.out.below hB4, hB3.out.trans (hB4.mono hz), 4, z, _, _, _, _, _, _, _, _, _, _, _, _, _, _, _, _, _, _, by omega, by omega, heqh.out.trans (hn.out hx), rfl⟩, by simp [intOf]⟩
        · go_wp2_with (go_at_call 60; (with_reducible refine hcal.out.mono ?_); rintro e w3 ⟨rfl, hB4⟩)
          refine ret_jump ?_
          go_ret3
          exact ⟨tuple3 (heqh.out.trans (hs.out hx)), hB3.out.trans (hB4.mono hz)⟩
      · have hcal := hide (rule_at5 hRh.out)
        have hn := hide (cf_next p win 5 2)
        have hs := hide (cf_stop p win 5 2)
        have f0 := hR.fns.cell 4
        clear hR heq
        generalize broken p win 5 = z at *
        by_cases hx : z < 0
        · go_wp2_with (go_at_call 60; (with_reducible refine hcal.out.mono ?_); rintro e w3 ⟨rfl, hB4⟩)
          refine wp_goto ⟨rfl, ?_⟩
          exact ⟨⟨g, B, L, b, hRh.out.below hB4, hB3.out.trans (hB4.mono hz), 5, z, _, _, _, _, _, _, _, _, _, _, _, _, _, _, _, _, _, _, by omega, by omega, heqh.out.trans (hn.out hx), rfl⟩, by simp [intOf]⟩
        · go_wp2_with (go_at_call 60; (with_reducible refine hcal.out.mono ?_); rintro e w3 ⟨rfl, hB4⟩)
          refine ret_jump ?_
          go_ret3
          exact ⟨tuple3 (heqh.out.trans (hs.out hx)), hB3.out.trans (hB4.mono hz)⟩
      · have hcal := hide (rule_at6 hRh.out)
        have hn := hide (cf_next p win 6 1)
        have hs := hide (cf_stop p win 6 1)
        have f0 := hR.fns.cell 5
        clear hR heq
        generalize broken p win 6 = z at *
        by_cases hx : z < 0
        · go_wp2_with (go_at_call 68; (with_reducible refine hcal.out.mono ?_); rintro e w3 ⟨rfl, hB4⟩)
          refine wp_goto ⟨rfl, ?_⟩
          exact ⟨⟨g, B, L, b, hRh.out.below hB4, hB3.out.trans (hB4.mono hz), 6, z, _, _, _, _, _, _, _, _, _, _, _, _, _, _, _, _, _, _, by omega, by omega, heqh.out.trans (hn.out hx), rfl⟩, by simp [intOf]⟩
        · go_wp2_with (go_at_call 68; (with_reducible refine hcal.out.mono ?_); rintro e w3 ⟨rfl, hB4⟩)
          refine ret_jump ?_
          go_ret3
          exact ⟨tuple3 (heqh.out.trans (hs.out hx)), hB3.out.trans (hB4.mono hz)⟩
      · have hcal := hide (rule_at7 hRh.out hrr.out)
        have hn := hide (cf_next p win 7 0)
        have hs := hide (cf_stop p win 7 0)
        have f0 := hR.fns.cell 6
        clear hR heq
        generalize broken p win 7 = z at *
        by_cases hx : z < 0
        · go_wp2_with (go_at_call 60; (with_reducible refine hcal.out.mono ?_); rintro e w3 ⟨rfl, hB4⟩)
          refine wp_goto ⟨rfl, ?_⟩
          exact ⟨⟨g, B, L, b, hRh.out.below hB4, hB3.out.trans (hB4.mono hz), 7, z, _, _, _, _, _, _, _, _, _, _, _, _, _, _, _, _, _, _, by omega, by omega, heqh.out.trans (hn.out hx), rfl⟩, by simp [intOf]⟩
        · go_wp2_with (go_at_call 60; (with_reducible refine hcal.out.mono ?_); rintro e w3 ⟨rfl, hB4⟩)
          refine ret_jump ?_
          go_ret3
          exact ⟨tuple3 (heqh.out.trans (hs.out hx)), hB3.out.trans (hB4.mono hz)⟩
      · clear hR heq
        go_wp2
        refine ret_jump ?_
        go_ret3
        exact ⟨tuple3 heqh.out, hB3.out⟩
end Go.Proofs.YtmmbblfmhcegcaaGreat

namespace Go.Proofs.YtmmbblfmhcegcaaGreat
open Go.RowKit
attribute [local go_sem] grown_cell grown_frozen

theorem lastPos_bd (p : List Sp) (n : Nat) : -1 ≤ lastPos p n ∧ lastPos p n < n := by
  induction n with
  | zero => simp [lastPos]
  | succ n ih => simp only [lastPos]; split <;> omega

theorem RdL.take {α : Type} {sz : Nat} {cells : World → Nat → α → List Value → Prop} {w : World} {B : Nat} {A : Option Addr} {n cap : Nat} {xs : List α} (h : RdL sz cells w B (.slice A n cap) xs) (k : Nat) (hk : k ≤ xs.length) :
    RdL sz cells w B (.slice A k cap) (xs.take k) := by
  obtain ⟨A', cap', b, off, e, h2, h3, h4, h5⟩ := h
  injection e with e1 e2 e3
  subst e1 e3
  refine ⟨A, cap, b, off, by simp; omega, by simp; omega, h3, fun h0 => h4 (by simp at h0; omega), fun i x hx => h5 i x ?_⟩
  rw [List.getElem?_take] at hx
  split at hx
  · exact hx
  · cases hx
theorem lastPos_take (p : List Sp) (n m : Nat) (h : m ≤ n) : lastPos (p.take n) m = lastPos p m := by
  induction m with
  | zero => rfl
  | succ m ih =>
    have : stepAt (p.take n) m = stepAt p m := by
      simp only [stepAt, List.getD_eq_getElem?_getD, List.getElem?_take, if_pos (show m < n by omega)]
    simp only [lastPos, this, ih (by omega)]

set_option maxRecDepth 100000 in
theorem cright_any (p : List Sp) (win : Int) (v : Value) (w : World) (h : RdS w w.heap.size v p) :
    Calls Tryz.prog 22 #[ptV v win] w fun e w' => e = .returned (.bool (mayB p win)) ∧ Below w.heap.size w w' := by
  have hc := hide fun w1 (hb : Below w.heap.size w w1) => check_any p win v w1 (h.below hb hb.size)
  obtain ⟨A, cap, rfl⟩ := h.len
  have hv : Hid (mayB p win = ((checkF p win).2.2 == 0)) := hide (by simp [mayB]; rfl)
  clear h
  generalize checkF p win = t at *
  obtain ⟨a, b, c⟩ := t
  simp only at hc hv
  go_enter Tryz.func22, Tryz.ntmps22
  go_wp2_with (go_at_call 37; (with_reducible refine (hc.out _ ((Below.refl _ _).alloc (Nat.le_refl _) _)).mono ?_); rintro e w1 ⟨rfl, hB1⟩)
  go_ret
  exact ⟨by rw [hv.out]; rfl, ((Below.refl _ _).alloc (Nat.le_refl _) _).trans (hB1.mono (by simp))⟩
end Go.Proofs.YtmmbblfmhcegcaaGreat

namespace Go.Proofs.YtmmbblfmhcegcaaGreat

theorem lastPos_rng (p : List Sp) (n : Nat) : -1 ≤ lastPos p n ∧ lastPos p n < n := by
  induction n with
  | zero => simp [lastPos]
  | succ n ih => simp only [lastPos]; split <;> omega
theorem lastPos_pos (p : List Sp) (n : Nat) (h : 0 ≤ lastPos p n) : (stepAt p (lastPos p n).toNat).neg = false := by
  induction n with
  | zero => simp [lastPos] at h
  | succ n ih =>
    simp only [lastPos] at h ⊢
    split
    · rename_i hn
      simp only [hn, if_true] at h
      exact ih h
    · rename_i hn
      simpa using hn
theorem lastPos_gap (p : List Sp) (n k : Nat) (h : lastPos p n < k) (hk : k < n) : (stepAt p k).neg = true := by
  induction n with
  | zero => omega
  | succ n ih =>
    simp only [lastPos] at h
    split at h
    · rename_i hn
      by_cases e : k = n
      · subst e; exact hn
      · exact ih h (by omega)
    · omega
theorem step_get {p : List Sp} {k : Nat} (h : k < p.length) : ∃ s, p[k]? = some s ∧ stepAt p k = s :=
  ⟨p[k], List.getElem?_eq_getElem h, by simp [stepAt, List.getElem?_eq_getElem h]⟩
/-- What there is behind and at the last positive one of the first n. -/
theorem last_facts (p : List Sp) (n : Nat) (hn : n ≤ p.length) : ∃ l : Int, lastPos p n = l ∧ -1 ≤ l ∧ l < n ∧ (∀ k : Nat, l < k → k < n → ∃ s, p[k]? = some s ∧ s.neg = true) ∧ (l = -1 ∨ ∃ (j : Nat) (s : Sp), l = j ∧ p[j]? = some s ∧ s.neg = false) := by
  obtain ⟨h1, h2⟩ := lastPos_rng p n
  refine ⟨_, rfl, h1, h2, fun k hk hkn => ?_, ?_⟩
  · obtain ⟨s, e1, e2⟩ := step_get (p := p) (k := k) (by omega)
    exact ⟨s, e1, by rw [← e2]; exact lastPos_gap p n k hk hkn⟩
  · by_cases e : lastPos p n = -1
    · exact .inl e
    · right
      obtain ⟨s, e1, e2⟩ := step_get (p := p) (k := (lastPos p n).toNat) (by omega)
      exact ⟨_, s, by omega, e1, by rw [← e2]; exact lastPos_pos p n (by omega)⟩
end Go.Proofs.YtmmbblfmhcegcaaGreat

namespace Go.Proofs.YtmmbblfmhcegcaaGreat

theorem checkFrom_spec (p : List Sp) (win : Int) : ∀ n r, (checkFrom p win r n = (0, 0, 0) ∧ ∀ k, r ≤ k → k < r + n → broken p win k < 0) ∨
    ∃ k, r ≤ k ∧ k < r + n ∧ checkFrom p win r n = ((k : Int), broken p win k, 110) ∧ 0 ≤ broken p win k ∧ ∀ j, r ≤ j → j < k → broken p win j < 0 := by
  intro n
  induction n with
  | zero => intro r; exact .inl ⟨rfl, fun k h1 h2 => by omega⟩
  | succ n ih =>
    intro r
    by_cases h : broken p win r < 0
    · have e : checkFrom p win r (n + 1) = checkFrom p win (r + 1) n := by simp [checkFrom, h]
      rw [e]
      rcases ih (r + 1) with ⟨h1, h2⟩ | ⟨k, h1, h2, h3, h4, h5⟩
      · refine .inl ⟨h1, fun k hk1 hk2 => ?_⟩
        by_cases e : k = r
        · subst e; exact h
        · exact h2 k (by omega) (by omega)
      · refine .inr ⟨k, by omega, by omega, h3, h4, fun j hj1 hj2 => ?_⟩
        by_cases e : j = r
        · subst e; exact h
        · exact h5 j (by omega) hj2
    · exact .inr ⟨r, Nat.le_refl _, by omega, by simp [checkFrom, h], by omega, fun j h1 h2 => by omega⟩

theorem whole_bd (b : Bool) : whole b = -1 ∧ b = true ∨ whole b = 0 ∧ b = false := by cases b <;> simp [whole]
theorem whole_true {b : Bool} (h : whole b < 0) : b = true := by
  rcases whole_bd b with ⟨-, h'⟩ | ⟨h', -⟩
  · exact h'
  · omega
theorem first_bd (f : Nat → Sp → Bool) (p : List Sp) (i : Nat) : firstFrom f i p = -1 ∨ (i : Int) ≤ firstFrom f i p ∧ firstFrom f i p < i + p.length := by
  induction p generalizing i with
  | nil => exact .inl rfl
  | cons s p ih =>
    simp only [firstFrom]
    split
    · rcases ih (i + 1) with h | ⟨h1, h2⟩
      · exact .inl h
      · right; simp only [List.length_cons]; omega
    · right; simp only [List.length_cons]; omega
theorem first_all {f : Nat → Sp → Bool} {p : List Sp} {i : Nat} (h : firstFrom f i p < 0) : ∀ k s, p[k]? = some s → f (i + k) s = true := by
  induction p generalizing i with
  | nil => intro k s hk; simp at hk
  | cons x p ih =>
    simp only [firstFrom] at h
    split at h
    · rename_i hx
      intro k s hk
      cases k with
      | zero => simp at hk; subst hk; exact hx
      | succ k => have := ih h k s (by simpa using hk); rwa [show i + 1 + k = i + (k + 1) by omega] at this
    · omega
theorem first_keep {f g : Nat → Sp → Bool} {p : List Sp} {i n : Nat} (hfg : ∀ k s, k < n → p[k]? = some s → g (i + k) s = f (i + k) s) (h : firstFrom f i p < 0 ∨ ((i + n : Nat) : Int) ≤ firstFrom f i p) :
    firstFrom g i (p.take n) = -1 := by
  induction p generalizing i n with
  | nil => simp [firstFrom]
  | cons s p ih =>
    cases n with
    | zero => simp [firstFrom]
    | succ n =>
      have h0 := hfg 0 s (by omega) rfl
      simp only [Nat.add_zero] at h0
      simp only [List.take_succ_cons, firstFrom, h0]
      simp only [firstFrom] at h
      split
      · rename_i hs
        simp only [hs, if_true] at h
        exact ih (fun k t hk ht => by have := hfg (k + 1) t (by omega) (by simpa using ht); rwa [show i + (k + 1) = i + 1 + k by omega] at this) (by omega)
      · rename_i hs
        simp only [hs] at h
        simp at h
        omega
theorem first_at {f : Nat → Sp → Bool} {p : List Sp} {i k : Nat} {s : Sp} (hs : p[k]? = some s) (hf : f (i + k) s = false) (hb : ∀ j t, j < k → p[j]? = some t → f (i + j) t = true) : firstFrom f i p = ((i + k : Nat) : Int) := by
  induction p generalizing i k with
  | nil => simp at hs
  | cons x p ih =>
    cases k with
    | zero =>
      simp at hs
      subst hs
      simp only [Nat.add_zero] at hf
      simp [firstFrom, hf]
    | succ k =>
      have h0 := hb 0 x (by omega) rfl
      simp only [Nat.add_zero] at h0
      simp only [firstFrom, h0, if_true]
      rw [ih (k := k) (by simpa using hs) (by rwa [show i + 1 + k = i + (k + 1) by omega]) (fun j t hj ht => by have := hb (j + 1) t (by omega) (by simpa using ht); rwa [show i + 1 + j = i + (j + 1) by omega])]
      congr 1
      omega
theorem first_ok {f : Nat → Sp → Bool} {p : List Sp} {i : Nat} (hb : ∀ j t, p[j]? = some t → f (i + j) t = true) : firstFrom f i p = -1 := by
  induction p generalizing i with
  | nil => rfl
  | cons x p ih =>
    have h0 := hb 0 x rfl
    simp only [Nat.add_zero] at h0
    simp only [firstFrom, h0, if_true]
    exact ih (fun j t ht => by have := hb (j + 1) t (by simpa using ht); rwa [show i + (j + 1) = i + 1 + j by omega] at this)

theorem broken_bd {p : List Sp} {win : Int} (h0 : 0 < p.length) (k : Nat) : -1 ≤ broken p win k ∧ broken p win k < p.length := by
  unfold broken
  have w1 := whole_bd (rule1 p win)
  have w2 := whole_bd (rule2 p)
  have w6 := whole_bd (rule6 p)
  have f3 := first_bd (rule3 p) p 0
  have f4 := first_bd (rule4 p) p 0
  have f5 := first_bd (rule5 p) p 0
  have f7 := first_bd (rule7 p) p 0
  split <;> (try split) <;> (try split) <;> (try split) <;> (try split) <;> (try split) <;> omega

theorem step_take {p : List Sp} {n k : Nat} (h : k < n) : stepAt (p.take n) k = stepAt p k := by
  simp only [stepAt, List.getD_eq_getElem?_getD, List.getElem?_take, if_pos h]
theorem rule4_take {p : List Sp} {n k : Nat} (s : Sp) (h : k < n) : rule4 (p.take n) k s = rule4 p k s := by
  simp only [rule4, step_take (show k - 1 < n by omega)]
theorem askOk_take {p : List Sp} {n k : Nat} (m : Int) (h : k < n) : askOk (p.take n) k m = askOk p k m := by
  simp only [askOk]
  by_cases hm : m < k
  · rw [step_take (show m.toNat < n by omega)]
  · simp [hm]
theorem rule7_take {p : List Sp} {n k : Nat} (s : Sp) (h : k < n) : rule7 (p.take n) k s = rule7 p k s := by
  simp only [rule7]
  congr 2
  funext m
  exact askOk_take m h
theorem right_take {p : List Sp} {win : Int} (h : rightB p win = true) {n : Nat} (h0 : 0 < n) : rightB (p.take n) win = true := by
  simp only [rightB, Bool.and_eq_true, decide_eq_true_eq, List.all_eq_true] at h ⊢
  obtain ⟨⟨⟨h1, h2⟩, h3⟩, h4⟩ := h
  refine ⟨⟨⟨by simp; omega, by simp; omega⟩, h3⟩, fun s hs => h4 s (List.mem_of_mem_take hs)⟩
theorem long_take {p : List Sp} (hm : ∀ s ∈ p, 0 ≤ s.max) (n : Nat) : longF (p.take n) ≤ longF p := by
  induction p generalizing n with
  | nil => simp [longF]
  | cons s p ih =>
    have h0 := hm s (by simp)
    have hp : 0 ≤ longF p := by
      have := ih (fun t ht => hm t (by simp [ht])) 0
      simpa [longF] using this
    cases n with
    | zero => simp only [longF, List.take_zero, List.map_nil, List.sum_nil, List.map_cons, List.sum_cons] at *; split <;> omega
    | succ n =>
      have := ih (fun t ht => hm t (by simp [ht])) n
      simp only [longF, List.take_succ_cons, List.map_cons, List.sum_cons] at *
      omega
theorem broken_take {p : List Sp} {win : Int} (hr : rightB p win = true) {n k : Nat} (h0 : 0 < n) (h : broken p win k < 0 ∨ (k ≠ 1 ∧ k ≠ 2 ∧ k ≠ 6 ∧ (n : Int) ≤ broken p win k)) : broken (p.take n) win k < 0 := by
  have hl := right_parts hr
  have hm : ∀ s ∈ p, 0 ≤ s.max := fun s hs => (hl.2.2 s hs).1
  unfold broken at h ⊢
  by_cases e1 : k = 1
  · simp only [e1, if_true] at h ⊢
    have h1 : rule1 p win = true := whole_true (by rcases h with h | h <;> omega)
    have : rule1 (p.take n) win = true := by
      simp only [rule1, decide_eq_true_eq, List.length_take] at h1 ⊢
      omega
    simp [this, whole]
  simp only [e1, if_false] at h ⊢
  by_cases e2 : k = 2
  · simp only [e2, if_true] at h ⊢
    have h1 : rule2 p = true := whole_true (by rcases h with h | h <;> omega)
    have : rule2 (p.take n) = true := by simpa only [rule2, step_take h0] using h1
    simp [this, whole]
  simp only [e2, if_false] at h ⊢
  by_cases e3 : k = 3
  · simp only [e3, if_true] at h ⊢
    rw [first_keep (f := rule3 p) (g := rule3 (p.take n)) (fun _ _ _ _ => rfl) (by omega)]; omega
  simp only [e3, if_false] at h ⊢
  by_cases e4 : k = 4
  · simp only [e4, if_true] at h ⊢
    rw [first_keep (f := rule4 p) (fun k s hk _ => by rw [Nat.zero_add]; exact rule4_take s hk) (by omega)]; omega
  simp only [e4, if_false] at h ⊢
  by_cases e5 : k = 5
  · simp only [e5, if_true] at h ⊢
    rw [first_keep (f := rule5 p) (g := rule5 (p.take n)) (fun _ _ _ _ => rfl) (by omega)]; omega
  simp only [e5, if_false] at h ⊢
  by_cases e6 : k = 6
  · simp only [e6, if_true] at h ⊢
    have h1 : rule6 p = true := whole_true (by rcases h with h | h <;> omega)
    have : rule6 (p.take n) = true := by
      have := long_take hm n
      simp only [rule6, decide_eq_true_eq] at h1 ⊢
      omega
    simp [this, whole]
  simp only [e6, if_false] at h ⊢
  rw [first_keep (f := rule7 p) (fun k s hk _ => by rw [Nat.zero_add]; exact rule7_take s hk) (by omega)]; omega

/-- THE LAW of the first rule, plain. -/
theorem check_first {p : List Sp} {win : Int} (hr : rightB p win = true) {r a e : Int} (h : checkF p win = (r, a, e)) :
    ((e = 0) ↔ (r = 0)) ∧ 0 ≤ r ∧ r ≤ 7 ∧ 0 ≤ a ∧ a < p.length ∧ ((r = 3 ∨ r = 4 ∨ r = 5 ∨ r = 7) → 0 < a → (checkF (p.take a.toNat) win).1 = 0 ∨ r < (checkF (p.take a.toNat) win).1) := by
  have h0 := (right_parts hr).1
  simp only [checkF, hr, if_true] at h
  rcases checkFrom_spec p win 7 1 with ⟨h1, h2⟩ | ⟨k, h1, h2, h3, h4, h5⟩
  · rw [h1] at h
    injection h with e1 e2
    injection e2 with e2 e3
    subst e1 e2 e3
    exact ⟨by simp, by omega, by omega, by omega, by omega, by omega⟩
  · rw [h3] at h
    injection h with e1 e2
    injection e2 with e2 e3
    have hb := (broken_bd (win := win) h0 k).2
    rw [← e1, ← e2, ← e3]
    refine ⟨by omega, by omega, by omega, h4, hb, fun hk ha => ?_⟩
    have hn : 0 < (broken p win k).toNat := by omega
    simp only [checkF, right_take hr hn, if_true]
    rcases checkFrom_spec (p.take (broken p win k).toNat) win 7 1 with ⟨g1, g2⟩ | ⟨j, g1, g2, g3, g4, g5⟩
    · rw [g1]; exact .inl rfl
    · right
      rw [g3]
      show (k : Int) < j
      rcases Nat.lt_or_ge k j with hlt | hge
      · omega
      · exfalso
        have : broken (p.take (broken p win k).toNat) win j < 0 := by
          refine broken_take hr hn ?_
          by_cases e : j = k
          · subst e; right; omega
          · left; exact h5 j g1 (by omega)
        omega
theorem check_wrong {p : List Sp} {win : Int} (hr : rightB p win = false) : checkF p win = (0, 0, 2) := by simp [checkF, hr]
end Go.Proofs.YtmmbblfmhcegcaaGreat

namespace Go.Proofs.YtmmbblfmhcegcaaGreat

structure StepMay (p : List Sp) (k : Nat) (s : Sp) : Prop where
  k0 : 0 ≤ s.kind
  k6 : s.kind < 6
  m1 : 1 ≤ s.min
  m2 : s.min ≤ s.max
  m3 : s.max ≤ 3
  neg : s.neg = true → s.max = 1 ∧ s.strict = false
  strict : s.strict = true → s.neg = false ∧ (stepAt p (k - 1)).neg = false
  cl : s.cmps.length ≤ 4
  ask : ∀ c ∈ s.cmps, ∀ n ∈ c.l.names ++ c.r.names, 0 ≤ n ∧ n ≤ k ∧ (n < k → (stepAt p n.toNat).neg = false ∧ (stepAt p n.toNat).max = 1)

theorem may_rules {p : List Sp} {win : Int} (h : mayB p win = true) : rightB p win = true ∧ ∀ k, 1 ≤ k → k < 8 → broken p win k < 0 := by
  simp only [mayB, decide_eq_true_eq] at h
  cases hr : rightB p win with
  | false => rw [check_wrong hr] at h; simp at h
  | true =>
    refine ⟨rfl, ?_⟩
    simp only [checkF, hr, if_true] at h
    rcases checkFrom_spec p win 7 1 with ⟨-, h2⟩ | ⟨k, -, -, h3, -, -⟩
    · exact h2
    · rw [h3] at h; simp at h

theorem right_term {t : Tm} (h : t.ok = true) {n : Int} (hn : n ∈ t.names) : 0 ≤ n ∧ n < 26 := by
  simp only [Tm.ok, decide_eq_true_eq] at h
  unfold Tm.names at hn
  split at hn
  · simp at hn
  · split at hn
    · simp at hn
      rcases hn with rfl | rfl <;> omega
    · simp at hn
      subst hn
      omega

theorem may_step {p : List Sp} {win : Int} (h : mayB p win = true) {k : Nat} {s : Sp} (hs : p[k]? = some s) : StepMay p k s := by
  obtain ⟨hr, hb⟩ := may_rules h
  have r3 : rule3 p k s = true := by
    have := hb 3 (by omega) (by omega)
    simp only [broken] at this
    have := first_all (f := rule3 p) (i := 0) (by simpa using this) k s hs
    simpa using this
  have r4 : rule4 p k s = true := by
    have := hb 4 (by omega) (by omega)
    simp only [broken] at this
    have := first_all (f := rule4 p) (i := 0) (by simpa using this) k s hs
    simpa using this
  have r5 : rule5 p k s = true := by
    have := hb 5 (by omega) (by omega)
    simp only [broken] at this
    have := first_all (f := rule5 p) (i := 0) (by simpa using this) k s hs
    simpa using this
  have r7 : rule7 p k s = true := by
    have := hb 7 (by omega) (by omega)
    simp only [broken] at this
    have := first_all (f := rule7 p) (i := 0) (by simpa using this) k s hs
    simpa using this
  simp only [rightB, Bool.and_eq_true, List.all_eq_true, Sp.ok, numB, decide_eq_true_eq] at hr
  have hk := hr.2 s (List.mem_of_getElem? hs)
  simp only [rule3, decide_eq_true_eq] at r3
  simp only [rule4, Bool.and_eq_true, Bool.or_eq_true, Bool.not_eq_true', decide_eq_true_eq] at r4
  simp only [rule5, Bool.or_eq_true, decide_eq_true_eq] at r5
  simp only [rule7, Bool.and_eq_true, List.all_eq_true, decide_eq_true_eq, askOk, Bool.or_eq_true, Bool.not_eq_true'] at r7
  obtain ⟨r41, r42⟩ := r4
  obtain ⟨r71, r72⟩ := r7
  have key : s.min ≥ 1 ∧ s.min ≤ s.max ∧ s.max ≤ 3 := by
    rcases r5 with h5 | h5
    · rcases r42 with h4 | h4
      · rw [h4] at h5; cases h5
      · omega
    · omega
  refine ⟨hk.1.1.1.1, r3, key.1, key.2.1, key.2.2, fun hn => ?_, fun ht => ?_, r71, fun c hc n hn => ?_⟩
  · rcases r42 with h4 | h4
    · rw [h4] at hn; cases hn
    · refine ⟨h4.2, ?_⟩
      rcases r41 with h1 | h1
      · rw [h1.1] at hn; cases hn
      · exact h1
  · rcases r41 with ⟨h1, h2⟩ | h1
    · refine ⟨h1, ?_⟩
      rcases h2 with rfl | h2
      · simp only [Nat.zero_sub]
        simp [stepAt, hs, h1]
      · exact h2
    · rw [h1] at ht; cases ht
  · have hok := hk.2 c hc
    simp only [Cm.ok, Bool.and_eq_true] at hok
    have h0 : 0 ≤ n := by
      rcases List.mem_append.1 hn with hm | hm
      · exact (right_term hok.1.2 hm).1
      · exact (right_term hok.2 hm).1
    have := r72 n (mem_asked.2 (List.mem_flatMap.2 ⟨c, hc, hn⟩))
    rcases this with rfl | ⟨⟨h1, h2⟩, h3⟩
    · exact ⟨h0, Int.le_refl _, fun h => absurd h (Int.lt_irrefl _)⟩
    · exact ⟨h0, by omega, fun _ => ⟨h2, h3⟩⟩

theorem may_whole {p : List Sp} {win : Int} (h : mayB p win = true) : 0 < p.length ∧ p.length ≤ 6 ∧ 0 ≤ win ∧ win ≤ 1073741824 ∧ (∀ s, p[0]? = some s → s.neg = false ∧ s.strict = false) ∧ longF p ≤ 4 := by
  obtain ⟨hr, hb⟩ := may_rules h
  have r1 : rule1 p win = true := whole_true (by have := hb 1 (by omega) (by omega); simpa [broken] using this)
  have r2 : rule2 p = true := whole_true (by have := hb 2 (by omega) (by omega); simpa [broken] using this)
  have r6 : rule6 p = true := whole_true (by have := hb 6 (by omega) (by omega); simpa [broken] using this)
  simp only [rightB, Bool.and_eq_true, decide_eq_true_eq, numB] at hr
  simp only [rule1, decide_eq_true_eq] at r1
  simp only [rule2, Bool.and_eq_true, Bool.not_eq_true'] at r2
  simp only [rule6, decide_eq_true_eq] at r6
  refine ⟨hr.1.1.1, r1.1, hr.1.2.1, r1.2, fun s hs => ?_, r6⟩
  simpa [stepAt, hs] using r2

theorem long_pos {p : List Sp} (hp : ∀ s ∈ p, 1 ≤ s.max) : (∀ k, 0 ≤ longF (p.take k)) ∧ ∀ s, p[0]? = some s → s.neg = false → 1 ≤ longF p := by
  have key : ∀ q : List Sp, (∀ s ∈ q, 1 ≤ s.max) → 0 ≤ longF q := by
    intro q
    induction q with
    | nil => intro _; simp [longF]
    | cons s q ih =>
      intro hq
      have h1 := ih fun t ht => hq t (by simp [ht])
      have h2 := hq s (by simp)
      simp only [longF, List.map_cons, List.sum_cons] at h1 ⊢
      split <;> omega
  refine ⟨fun k => key _ fun s hs => hp s (List.mem_of_mem_take hs), fun s hs hn => ?_⟩
  cases p with
  | nil => simp at hs
  | cons t p =>
    simp at hs
    subst hs
    have h1 := key p fun s hs => hp s (by simp [hs])
    have h2 := hp t (by simp)
    simp only [longF, List.map_cons, List.sum_cons] at h1 ⊢
    rw [hn]
    simp
    omega
theorem long_mono {p : List Sp} (hp : ∀ s ∈ p, 1 ≤ s.max) (k : Nat) : longF (p.take k) ≤ longF p := long_take (fun s hs => by have := hp s hs; omega) k
end Go.Proofs.YtmmbblfmhcegcaaGreat
