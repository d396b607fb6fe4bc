/- Several texts of one proof: When two automata are the same: the walks of slices.Equal at ints, slices.EqualFunc at states, nfa.Same. | Is a number among these? the walk of among; the states behind one by a step: the walks of nfa.New's test and of IndexFunc at states. -/
import Derived.Test.YtmmbblfmhcegcaaGreatM15
import Derived.Test.YtmmbblfmhcegcaaGreatM04
import Derived.Test.YtmmbblfmhcegcaaGreatM03
import Derived.Deep.QuietTactic
import Derived.BigQuiet

namespace Go.Proofs.YtmmbblfmhcegcaaGreat
open Go.RowKit
attribute [local go_sem] grown_cell grown_frozen

set_option maxRecDepth 100000 in
theorem equal_ints (xs ys : List Int) (v u : Value) (w : World) (hv : RdI w w.heap.size v xs) (hu : RdI w w.heap.size u ys) :
    Calls Tryz.prog 32 #[v, u] w fun e w' => e = .returned (.bool (decide (xs = ys))) ∧ Below w.heap.size w w' := by
  obtain ⟨A, cap, b, off, rfl, h2, h3, h4, h5⟩ := hv
  obtain ⟨A', cap', b', off', rfl, g2, g3, g4, g5⟩ := hu
  by_cases hne : xs.length ≠ ys.length
  · have hf : decide (xs = ys) = false := by simp; rintro rfl; exact hne rfl
    have hd : ((xs.length : Int) == ys.length) = false := by simp; omega
    have hd' : ((xs.length : Int) != ys.length) = true := by simp; omega
    clear h4 h5 g4 g5
    rw [hf]
    go_enter Tryz.func32, Tryz.ntmps32
    go_wp2
    go_ret
    exact ⟨rfl, Below.refl _ _⟩
  have hl := hide (Decidable.not_not.1 hne)
  have hd : ((xs.length : Int) == ys.length) = true := by simp [hl.out]
  have hd' : ((xs.length : Int) != ys.length) = false := by simp [hl.out]
  clear hne
  go_enter Tryz.func32, Tryz.ntmps32
  go_wp2
  clear hd hd'
  go_loopw [13] (fun i wr => ∃ k : Nat, k ≤ xs.length ∧ i = .int .i64 k ∧ Hid (xs.take k = ys.take k) ∧ Below w.heap.size w wr) (fun i _ => xs.length - (intOf i).toNat)
  case atStart => exact ⟨0, by omega, rfl, hide rfl, Below.refl _ _⟩
  case round =>
    obtain ⟨k, hk, rfl, heq, hB⟩ := hrel
    by_cases hlt : k < xs.length
    · have hlt' : k < ys.length := by have := hl.out; omega
      obtain ⟨rfl, hb⟩ := h4 (by omega)
      obtain ⟨rfl, hb'⟩ := g4 (by omega)
      have hx := List.getElem?_eq_getElem hlt
      have hy := List.getElem?_eq_getElem hlt'
      obtain ⟨vs, rfl, hat⟩ := h5 k xs[k] hx
      obtain ⟨us, rfl, hat'⟩ := g5 k ys[k] hy
      have c0 := (hat.below hB hb).c1
      have d0 := (hat'.below hB hb').c1
      simp only [Nat.mul_one] at c0 d0
      have hno : xs[k] ≠ ys[k] → Hid (decide (xs = ys) = false) := fun h => hide (by simpa using jne_at hx hy h)
      have hyes : xs[k] = ys[k] → Hid (xs.take (k + 1) = ys.take (k + 1)) := fun h => hide (jtake_snoc hx (h ▸ hy) heq.out)
      have hno := hide hno
      have hyes := hide hyes
      clear hat hat' h5 g5 hx hy heq
      generalize xs[k] = c at *
      generalize ys[k] = d at *
      have hz := hB.size
      by_cases hcd : c = d
      · have hn := hyes.out hcd
        subst hcd
        clear hno hyes
        go_wp2
        go_quiet (fail)
        go_wp2
        exact ⟨⟨k + 1, by omega, rfl, hn, jdrewN hB _⟩, by simp [intOf]; omega⟩
      · have hn := hno.out hcd
        have e1 : (c == d) = false := by simpa using hcd
        have e2 : (c != d) = true := by simpa using hcd
        clear hno hyes
        go_wp2
        go_quiet (fail)
        go_wp2
        go_ret
        exact ⟨jret_bool hn.out.symm, jdrewN hB _⟩
    · obtain rfl : k = xs.length := by omega
      have hi : Hid (decide (xs = ys) = true) := hide (by simpa using jeq_of_take hl.out heq.out)
      clear h4 h5 g4 g5
      go_wp2
      go_ret
      exact ⟨jret_bool hi.out.symm, hB⟩


abbrev stV (s : St) (gv : Value) : Value := .agg #[.int .i64 s.step, .int .i64 s.place, .bool s.strict, gv, .int .i64 s.ahead, .bool s.last]
deriving instance DecidableEq for St
theorem st_ne {a1 a2 a5 b1 b2 b5 : Int} {a3 a6 b3 b6 : Bool} {a4 b4 : List Int} (h : ¬ (a1 = b1 ∧ a2 = b2 ∧ a3 = b3 ∧ a4 = b4 ∧ a5 = b5 ∧ a6 = b6)) : decide ((⟨a1, a2, a3, a4, a5, a6⟩ : St) = ⟨b1, b2, b3, b4, b5, b6⟩) = false := by simpa using h

set_option maxRecDepth 100000 in
set_option maxHeartbeats 2000000 in
theorem nsame1_any (a b : St) (av bv : Value) (w : World) (ha : RdI w w.heap.size av a.guards) (hb : RdI w w.heap.size bv b.guards) :
    Calls Tryz.prog 34 #[stV a av, stV b bv] w fun e w' => e = .returned (.bool (decide (a = b))) ∧ Below w.heap.size w w' := by
  have hc := hide fun w1 (hb1 : Below w.heap.size w w1) => equal_ints a.guards b.guards av bv w1 (ha.below hb1 hb1.size) (hb.below hb1 hb1.size)
  obtain ⟨Aa, ka, rfl⟩ := rd_form ha
  obtain ⟨Ab, kb, rfl⟩ := rd_form hb
  clear ha hb
  obtain ⟨a1, a2, a3, a4, a5, a6⟩ := a
  obtain ⟨b1, b2, b3, b4, b5, b6⟩ := b
  simp only at hc
  by_cases h1 : a1 = b1
  rotate_left
  · rw [st_ne (fun h => h1 (by obtain ⟨q1, q2, q3, q4, q5, q6⟩ := h; assumption))]
    have h1' : (a1 == b1) = false := by simpa using h1
    clear h1
    go_enter Tryz.func34, Tryz.ntmps34
    go_wp2
    go_ret
    exact ⟨rfl, ((Below.refl _ _).alloc (Nat.le_refl _) _).alloc (by simp) _⟩
  subst h1
  by_cases h2 : a2 = b2
  rotate_left
  · rw [st_ne (fun h => h2 (by obtain ⟨q1, q2, q3, q4, q5, q6⟩ := h; assumption))]
    have h1' : (a2 == b2) = false := by simpa using h2
    clear h2
    go_enter Tryz.func34, Tryz.ntmps34
    go_wp2
    go_ret
    exact ⟨rfl, ((Below.refl _ _).alloc (Nat.le_refl _) _).alloc (by simp) _⟩
  subst h2
  by_cases h3 : a3 = b3
  rotate_left
  · rw [st_ne (fun h => h3 (by obtain ⟨q1, q2, q3, q4, q5, q6⟩ := h; assumption))]
    have h1' : (a3 == b3) = false := by simpa using h3
    clear h3
    go_enter Tryz.func34, Tryz.ntmps34
    go_wp2
    go_ret
    exact ⟨rfl, ((Below.refl _ _).alloc (Nat.le_refl _) _).alloc (by simp) _⟩
  subst h3
  by_cases h5 : a5 = b5
  rotate_left
  · rw [st_ne (fun h => h5 (by obtain ⟨q1, q2, q3, q4, q5, q6⟩ := h; assumption))]
    have h1' : (a5 == b5) = false := by simpa using h5
    clear h5
    go_enter Tryz.func34, Tryz.ntmps34
    go_wp2
    go_ret
    exact ⟨rfl, ((Below.refl _ _).alloc (Nat.le_refl _) _).alloc (by simp) _⟩
  subst h5
  by_cases h6 : a6 = b6
  rotate_left
  · rw [st_ne (fun h => h6 (by obtain ⟨q1, q2, q3, q4, q5, q6⟩ := h; assumption))]
    have h1' : (a6 == b6) = false := by simpa using h6
    clear h6
    go_enter Tryz.func34, Tryz.ntmps34
    go_wp2
    go_ret
    exact ⟨rfl, ((Below.refl _ _).alloc (Nat.le_refl _) _).alloc (by simp) _⟩
  subst h6
  rw [show decide ((⟨a1, a2, a3, a4, a5, a6⟩ : St) = ⟨a1, a2, a3, b4, a5, a6⟩) = decide (a4 = b4) by simp]
  generalize decide (a4 = b4) = r at *
  go_enter Tryz.func34, Tryz.ntmps34
  go_wp2_with (go_at_call 32; (with_reducible refine (stayf (G := w.heap.size + 2) (hc.out _ (((Below.refl _ _).alloc (Nat.le_refl _) _).alloc (by simp) _)) (by simp)).mono ?_); rintro e w1 ⟨rfl, hc1, hf1, hz1, hB1⟩)
  go_ret
  refine ⟨rfl, ?_⟩
  repeat (first | exact Below.refl _ _ | refine Below.trans ?_ (Below.mono (Hid.out ‹Hid (Below _ _ _)›) (by first | omega | (simp; omega))) | refine Below.setCell ?_ (by first | omega | (simp; done) | (simp; omega)) _ | refine Below.alloc ?_ (by first | omega | (simp; done) | (simp; omega)) _ | refine Below.drew ?_)

set_option maxRecDepth 100000 in
set_option maxHeartbeats 1000000 in
theorem nequalfunc_any (p q : List St) (v u : Value) (w : World) (hv : RdT w w.heap.size v p) (hu : RdT w w.heap.size u q) :
    Calls Tryz.prog 33 #[v, u, .func (.func 34) #[] #[]] w fun e w' => e = .returned (.bool (decide (p = q))) ∧ Below w.heap.size w w' := by
  obtain ⟨A, cap, b, off, rfl, h2, h3, h4, h5⟩ := hv
  obtain ⟨A', cap', b', off', rfl, g2, g3, g4, g5⟩ := hu
  by_cases hne : p.length ≠ q.length
  · have hf : decide (p = q) = false := by simp; rintro rfl; exact hne rfl
    have hd : ((p.length : Int) == q.length) = false := by simp; omega
    have hd' : ((p.length : Int) != q.length) = true := by simp; omega
    clear h4 h5 g4 g5
    rw [hf]
    go_enter Tryz.func33, Tryz.ntmps33
    go_wp2
    go_ret
    exact ⟨rfl, Below.refl _ _⟩
  have hl := hide (Decidable.not_not.1 hne)
  have hd : ((p.length : Int) == q.length) = true := by simp [hl.out]
  have hd' : ((p.length : Int) != q.length) = false := by simp [hl.out]
  clear hne
  go_enter Tryz.func33, Tryz.ntmps33
  go_wp2
  clear hd hd'
  go_loopw [17] (fun i wr => ∃ k : Nat, k ≤ p.length ∧ i = .int .i64 k ∧ Hid (p.take k = q.take k) ∧ Below w.heap.size w wr) (fun i _ => p.length - (intOf i).toNat)
  case atStart => exact ⟨0, by omega, rfl, hide rfl, Below.refl _ _⟩
  case round =>
    obtain ⟨k, hk, rfl, heq, hB⟩ := hrel
    by_cases hlt : k < p.length
    · have hlt' : k < q.length := by have := hl.out; omega
      obtain ⟨rfl, hb⟩ := h4 (by omega)
      obtain ⟨rfl, hb'⟩ := g4 (by omega)
      have hx := List.getElem?_eq_getElem hlt
      have hy := List.getElem?_eq_getElem hlt'
      obtain ⟨vs, ⟨cv, rfl, hcv⟩, hat⟩ := h5 k p[k] hx
      obtain ⟨us, ⟨cu, rfl, hcu⟩, hat'⟩ := g5 k q[k] hy
      obtain ⟨c0, c1, c2, c3, c4, c5⟩ := (hat.below hB hb).c6
      obtain ⟨d0, d1, d2, d3, d4, d5⟩ := (hat'.below hB hb').c6
      obtain ⟨Ac, kc, rfl⟩ := rd_form hcv
      obtain ⟨Au, ku, rfl⟩ := rd_form hcu
      have hb1 : b' < wr.heap.size := Nat.lt_of_lt_of_le hb' hB.size
      have hno : p[k] ≠ q[k] → Hid (decide (p = q) = false) := fun h => hide (by simpa using jne_at hx hy h)
      have hyes : p[k] = q[k] → Hid (p.take (k + 1) = q.take (k + 1)) := fun h => hide (jtake_snoc hx (h ▸ hy) heq.out)
      have hno := hide hno
      have hyes := hide hyes
      have hcall := hide fun w1 (hb1 : Below wr.heap.size wr w1) => nsame1_any p[k] q[k] _ _ w1 ((hcv.below hB hB.size).below hb1 hb1.size) ((hcu.below hB hB.size).below hb1 hb1.size)
      clear hat hat' h5 g5 hx hy heq hcv hcu
      generalize p[k] = c at *
      generalize q[k] = d at *
      have hz := hB.size
      by_cases hcd : c = d
      · have hn := hyes.out hcd
        subst hcd
        simp only [decide_true] at hcall
        clear hno hyes
        go_wp2_with (go_at_call 34; (with_reducible refine (stayf (G := wr.heap.size + 2) (hcall.out _ (((Below.refl _ _).alloc (Nat.le_refl _) _).alloc (by simp) _)) (by simp)).mono ?_); rintro e w1 ⟨rfl, hc1, hf1, hz1, hB1⟩)
        refine ⟨⟨k + 1, by omega, rfl, hn, ?_⟩, by simp [intOf]; omega⟩
        repeat (first | exact Below.refl _ _ | refine Below.trans ?_ (Below.mono (Hid.out ‹Hid (Below _ _ _)›) (by first | omega | (simp; omega))) | refine Below.setCell ?_ (by first | omega | (simp; done) | (simp; omega)) _ | refine Below.alloc ?_ (by first | omega | (simp; done) | (simp; omega)) _ | refine Below.drew ?_)
      · have hn := hno.out hcd
        simp only [hcd, decide_false] at hcall
        clear hno hyes hcd
        go_wp2_with (go_at_call 34; (with_reducible refine (stayf (G := wr.heap.size + 2) (hcall.out _ (((Below.refl _ _).alloc (Nat.le_refl _) _).alloc (by simp) _)) (by simp)).mono ?_); rintro e w1 ⟨rfl, hc1, hf1, hz1, hB1⟩)
        go_ret
        refine ⟨jret_bool hn.out.symm, ?_⟩
        repeat (first | exact Below.refl _ _ | refine Below.trans ?_ (Below.mono (Hid.out ‹Hid (Below _ _ _)›) (by first | omega | (simp; omega))) | refine Below.setCell ?_ (by first | omega | (simp; done) | (simp; omega)) _ | refine Below.alloc ?_ (by first | omega | (simp; done) | (simp; omega)) _ | refine Below.drew ?_)
    · obtain rfl : k = p.length := by omega
      have hi : Hid (decide (p = q) = true) := hide (by simpa using jeq_of_take hl.out heq.out)
      clear h4 h5 g4 g5
      go_wp2
      go_ret
      exact ⟨jret_bool hi.out.symm, hB⟩


def nsameB (l : List St) (a : List Int) (wl : Int) (m : List St) (b : List Int) (wm : Int) : Bool := decide (l = m ∧ a = b ∧ wl = wm)
set_option maxHeartbeats 2000000 in
theorem nsame_any (l m : List St) (a b : List Int) (wl wm : Int) (lv av mv bv : Value) (w : World) (hl : RdT w w.heap.size lv l) (ha : RdI w w.heap.size av a) (hm : RdT w w.heap.size mv m) (hb : RdI w w.heap.size bv b) :
    Calls Tryz.prog 20 #[atV lv av wl, atV mv bv wm] w fun e w' => e = .returned (.bool (nsameB l a wl m b wm)) ∧ Below w.heap.size w w' := by
  have hc := hide fun w1 (hb1 : Below w.heap.size w w1) => nequalfunc_any l m lv mv w1 (hl.below hb1 hb1.size) (hm.below hb1 hb1.size)
  have he := hide fun w1 (hb1 : Below w.heap.size w w1) => equal_ints a b av bv w1 (ha.below hb1 hb1.size) (hb.below hb1 hb1.size)
  obtain ⟨Aa, ka, rfl⟩ := rd_form ha
  obtain ⟨Ab, kb, rfl⟩ := rd_form hb
  obtain ⟨Al, kl, rfl⟩ : ∃ A c, lv = .slice A l.length c := by obtain ⟨A, c, b, off, e, -⟩ := hl; exact ⟨A, c, e⟩
  obtain ⟨Am, km, rfl⟩ : ∃ A c, mv = .slice A m.length c := by obtain ⟨A, c, b, off, e, -⟩ := hm; exact ⟨A, c, e⟩
  clear hl ha hm hb
  by_cases h : wl = wm
  · subst h
    by_cases h2 : a = b
    · subst h2
      have hs : nsameB l a wl m a wl = decide (l = m) := by simp [nsameB]
      rw [hs]
      simp only [decide_true] at he
      generalize decide (l = m) = r at *
      go_enter Tryz.func20, Tryz.ntmps20
      have hX := hide (((Below.refl w.heap.size w).alloc (Nat.le_refl _) (.cells #[.slice Al l.length kl, .slice Aa a.length ka, .int .i64 wl] 30)).alloc (by simp) (.cells #[.slice Am m.length km, .slice Ab a.length kb, .int .i64 wl] 30))
      go_wp2_with (first | (go_at_call 32; (with_reducible refine (stayf (G := w.heap.size + 2) (he.out _ hX.out) (by simp)).mono ?_); rintro e w1 ⟨rfl, hc1, hf1, hz1, hB1⟩; have hB1w := hide (hX.out.trans (hB1.out.mono (by omega)))) | (go_at_call 33; (with_reducible refine (hc.out _ hB1w.out).mono ?_); rintro e w2 ⟨rfl, hB2⟩))
      go_ret
      exact ⟨rfl, hB1w.out.trans (hB2.mono hB1w.out.size)⟩
    · have hs : nsameB l a wl m b wl = false := by simp [nsameB, h2]
      rw [hs]
      simp only [h2, decide_false] at he
      clear h2 hc hs
      go_enter Tryz.func20, Tryz.ntmps20
      have hX := hide (((Below.refl w.heap.size w).alloc (Nat.le_refl _) (.cells #[.slice Al l.length kl, .slice Aa a.length ka, .int .i64 wl] 30)).alloc (by simp) (.cells #[.slice Am m.length km, .slice Ab b.length kb, .int .i64 wl] 30))
      go_wp2_with (go_at_call 32; (with_reducible refine (stayf (G := w.heap.size + 2) (he.out _ hX.out) (by simp)).mono ?_); rintro e w1 ⟨rfl, hc1, hf1, hz1, hB1⟩)
      go_ret
      exact ⟨rfl, hX.out.trans (hB1.out.mono (by omega))⟩
  · have hs : nsameB l a wl m b wm = false := by simp [nsameB, h]
    rw [hs]
    have h1' : (wl == wm) = false := by simpa using h
    clear h hs hc he
    go_enter Tryz.func20, Tryz.ntmps20
    go_wp2
    go_ret
    exact ⟨rfl, ((Below.refl _ _).alloc (Nat.le_refl _) _).alloc (by simp) _⟩
end Go.Proofs.YtmmbblfmhcegcaaGreat

namespace Go.Proofs.YtmmbblfmhcegcaaGreat
open Go.RowKit

theorem ret_i {a b : Int} (h : a = b) : Ending.returned (.int .i64 a) = .returned (.int .i64 b) := by rw [h]
theorem among_take {l : List Int} {k : Nat} {n : Int} (hk : k < l.length) (h : n ∉ l.take k) (hne : l[k] ≠ n) : n ∉ l.take (k + 1) := by
  rw [List.take_add_one, List.getElem?_eq_getElem hk]
  simp only [Option.toList_some, List.mem_append, List.mem_singleton]
  rintro (h1 | h1)
  · exact h h1
  · exact hne h1.symm

set_option maxRecDepth 100000 in
set_option maxHeartbeats 4000000 in
theorem among_any (l : List Int) (n : Int) (v : Value) (w : World) (h : RdI w w.heap.size v l) :
    Calls Tryz.prog 15 #[v, .int .i64 n] w fun e w' => e = .returned (.bool (decide (n ∈ l))) ∧ Below w.heap.size w w' := by
  obtain ⟨A, cap, b, off, rfl, h2, h3, h4, h5⟩ := h
  go_enter Tryz.func15, Tryz.ntmps15
  go_wp2
  go_loopw [5] (fun i wr => ∃ k : Nat, k ≤ l.length ∧ i = .int .i64 k ∧ Hid (n ∉ l.take k) ∧ Below w.heap.size w wr) (fun i _ => l.length - (intOf i).toNat)
  case atStart => exact ⟨0, by omega, rfl, hide (by simp), Below.refl _ _⟩
  case round =>
    obtain ⟨k, hk, rfl, hno, hB⟩ := hrel
    by_cases hlt : k < l.length
    · obtain ⟨rfl, hb⟩ := h4 (by omega)
      have hx := List.getElem?_eq_getElem hlt
      obtain ⟨cs, rfl, hat⟩ := h5 k l[k] hx
      have c0 := (hat.below hB hb) 0 _ rfl
      simp only [Nat.mul_one, Nat.add_zero] at c0
      have hin := hide (fun (e : l[k] = n) => show Hid (decide (n ∈ l) = true) from hide (by rw [← e]; simp))
      have hnx := hide (fun (e : l[k] ≠ n) => hide (among_take hlt hno.out e))
      have hki : (k : Int) < l.length := by omega
      clear h5 hat hx hno
      generalize l[k] = x at *
      by_cases e : x = n
      · subst e
        have hr := hin.out rfl
        clear hin hnx
        go_wp2
        go_ret
        exact ⟨ret_bool hr.out.symm, hB⟩
      · have hr := hnx.out e
        have z : (x == n) = false := by simpa using e
        clear hin hnx e
        go_wp2
        exact ⟨⟨k + 1, by omega, rfl, hr, hB⟩, by simp [intOf]; omega⟩
    · obtain rfl : k = l.length := by omega
      have hi : Hid (decide (n ∈ l) = false) := hide (by simpa using hno.out)
      clear h4 h5
      go_wp2
      go_ret
      exact ⟨ret_bool hi.out.symm, hB⟩

/-- Is it the state behind one, of this step? -/
def isSt (ahead step : Int) (s : St) : Bool := decide (s.ahead = ahead) && decide (s.step = step)
def findS (l : List St) (ahead step : Int) : Int := match l.findIdx? (isSt ahead step) with | some i => i | none => -1
theorem findS_at {l : List St} {ah st : Int} {k : Nat} {s : St} (hk : l[k]? = some s) (hs : isSt ah st s = true) (hno : ∀ (j : Nat) (t : St), j < k → l[j]? = some t → isSt ah st t = false) : findS l ah st = k := by
  have : l.findIdx? (isSt ah st) = some k := by
    obtain ⟨hlt, rfl⟩ := List.getElem?_eq_some_iff.1 hk
    rw [List.findIdx?_eq_some_iff_getElem]
    exact ⟨hlt, hs, fun j hj => by simp [hno j _ hj (List.getElem?_eq_getElem (by omega))]⟩
  simp [findS, this]
theorem findS_none {l : List St} {ah st : Int} (hno : ∀ (j : Nat) (t : St), l[j]? = some t → isSt ah st t = false) : findS l ah st = -1 := by
  have : l.findIdx? (isSt ah st) = none := by
    rw [List.findIdx?_eq_none_iff]
    intro x hx
    obtain ⟨j, hj, rfl⟩ := List.mem_iff_getElem.1 hx
    exact hno j _ (List.getElem?_eq_getElem hj)
  simp [findS, this]

set_option maxRecDepth 100000 in
set_option maxHeartbeats 4000000 in
theorem new1_any (s : St) (gv : Value) (ah st : Int) (Ba Bs : Nat) (w : World) (hg : ∃ A n c, gv = .slice A n c) (ha : Blk w Ba 3 #[.int .i64 ah]) (hs : Blk w Bs 3 #[.int .i64 st]) :
    Calls Tryz.prog 24 #[stV s gv, .pointer (some ⟨Ba, 0, none⟩), .pointer (some ⟨Bs, 0, none⟩)] w fun e w' => e = .returned (.bool (isSt ah st s)) ∧ Below w.heap.size w w' := by
  obtain ⟨A, n, c, rfl⟩ := hg
  have c0 := ha.one
  have c1 := hs.one
  have l0 := ha.lt
  have l1 := hs.lt
  have hr : Hid (isSt ah st s = (decide (s.ahead = ah) && decide (s.step = st))) := hide rfl
  obtain ⟨sp, pl, sr, gs, ad, la⟩ := s
  simp only at hr
  generalize isSt ah st _ = r at *
  by_cases e1 : ad = ah
  · subst e1
    by_cases e2 : sp = st
    · subst e2
      have hr2 : Hid (r = true) := hide (by rw [hr.out]; simp)
      clear hr
      go_enter Tryz.func24, Tryz.ntmps24
      go_wp2
      go_ret
      exact ⟨ret_bool hr2.out.symm, (Below.refl _ _).alloc (Nat.le_refl _) _⟩
    · have hr2 : Hid (r = false) := hide (by rw [hr.out]; simp [e2])
      have z : (sp == st) = false := by simpa using e2
      clear hr e2
      go_enter Tryz.func24, Tryz.ntmps24
      go_wp2
      go_ret
      exact ⟨ret_bool hr2.out.symm, (Below.refl _ _).alloc (Nat.le_refl _) _⟩
  · have hr2 : Hid (r = false) := hide (by rw [hr.out]; simp [e1])
    have z : (ad == ah) = false := by simpa using e1
    clear hr e1
    go_enter Tryz.func24, Tryz.ntmps24
    go_wp2
    go_ret
    exact ⟨ret_bool hr2.out.symm, (Below.refl _ _).alloc (Nat.le_refl _) _⟩

set_option maxRecDepth 100000 in
set_option maxHeartbeats 4000000 in
theorem index_any (l : List St) (sv : Value) (ah st : Int) (Ba Bs : Nat) (w : World) (h : RdT w w.heap.size sv l) (ha : Blk w Ba 3 #[.int .i64 ah]) (hs : Blk w Bs 3 #[.int .i64 st]) :
    Calls Tryz.prog 25 #[sv, .func (.func 24) #[] #[.pointer (some ⟨Ba, 0, none⟩), .pointer (some ⟨Bs, 0, none⟩)]] w fun e w' => e = .returned (.int .i64 (findS l ah st)) ∧ Below w.heap.size w w' := by
  have hcall := hide fun (s : St) (gv : Value) (hg : ∃ A n c, gv = .slice A n c) w1 (hb : Below w.heap.size w w1) => new1_any s gv ah st Ba Bs w1 hg (ha.below hb ha.lt) (hs.below hb hs.lt)
  obtain ⟨A, cap, b, off, rfl, h2, h3, h4, h5⟩ := h
  clear ha hs
  go_enter Tryz.func25, Tryz.ntmps25
  go_wp2
  go_loopw [8] (fun i wr => ∃ k : Nat, k ≤ l.length ∧ i = .int .i64 k ∧ Hid (∀ j t, j < k → l[j]? = some t → isSt ah st t = false) ∧ Below w.heap.size w wr) (fun i _ => l.length - (intOf i).toNat)
  case atStart => exact ⟨0, by omega, rfl, hide (fun j t h => by omega), Below.refl _ _⟩
  case round =>
    obtain ⟨k, hk, rfl, hno, hB⟩ := hrel
    by_cases hlt : k < l.length
    · obtain ⟨rfl, hb⟩ := h4 (by omega)
      obtain ⟨s, hs⟩ : ∃ s, l[k]? = some s := ⟨_, List.getElem?_eq_getElem hlt⟩
      obtain ⟨vs, ⟨gv, rfl, hgv⟩, hat⟩ := h5 k s hs
      obtain ⟨Ag, cg, hge⟩ : ∃ A c, gv = .slice A s.guards.length c := by
        obtain ⟨A, c, b, off, e, -⟩ := hgv
        exact ⟨A, c, e⟩
      subst hge
      obtain ⟨c0, c1, c2, c3, c4, c5⟩ := (hat.below hB hb).c6
      have hyes := hide fun (e : isSt ah st s = true) => hide (findS_at hs e hno.out)
      have hnx := hide fun (e : isSt ah st s = false) => show Hid (∀ j t, j < k + 1 → l[j]? = some t → isSt ah st t = false) from hide fun j t hj ht => by
        by_cases ej : j = k
        · subst ej
          rw [hs] at ht
          cases ht
          exact e
        · exact hno.out j t (by omega) ht
      have hc := hide fun w1 (hb1 : Below wr.heap.size wr w1) => hcall.out s (.slice Ag s.guards.length cg) ⟨_, _, _, rfl⟩ w1 (hB.trans (hb1.mono hB.size))
      have hki : (k : Int) < l.length := by omega
      have hbr : b < wr.heap.size := by have := hB.size; omega
      clear h5 h4 hat hgv hno hs
      obtain ⟨r, hr⟩ : ∃ r, isSt ah st s = r := ⟨_, rfl⟩
      rw [hr] at hc hyes hnx
      obtain ⟨sp, pl, sr, gs, ad, la⟩ := s
      simp only at c0 c1 c2 c3 c4 c5 hc
      clear hr
      cases r with
      | true =>
        have hy := hyes.out rfl
        clear hyes hnx
        go_wp2_with (go_at_call 24; (with_reducible refine (hc.out _ (Below.refl _ _)).mono ?_); rintro e w1 ⟨rfl, hB1⟩)
        go_ret
        exact ⟨ret_i hy.out.symm, hB.trans (hB1.mono hB.size)⟩
      | false =>
        have hy := hnx.out rfl
        clear hyes hnx
        go_wp2_with (go_at_call 24; (with_reducible refine (hc.out _ (Below.refl _ _)).mono ?_); rintro e w1 ⟨rfl, hB1⟩)
        exact ⟨⟨k + 1, by omega, rfl, hy, hB.trans (hB1.mono hB.size)⟩, by simp [intOf]; omega⟩
    · obtain rfl : k = l.length := by omega
      have hi : Hid (findS l ah st = -1) := hide (findS_none fun j t ht => hno.out j t (List.getElem?_eq_some_iff.1 ht).1 ht)
      clear h4 h5
      go_wp2
      go_ret
      exact ⟨ret_i hi.out.symm, hB⟩
end Go.Proofs.YtmmbblfmhcegcaaGreat
