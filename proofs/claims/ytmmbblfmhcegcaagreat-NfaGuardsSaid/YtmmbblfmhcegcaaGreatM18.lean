/- Several texts of one proof: When two automata are the same: the walk of the reference's Same. | Rows of states of a call's own; clones of slices of states. | A pattern's automaton under way: what the memory holds of it, and how that changes. -/
import Derived.Test.YtmmbblfmhcegcaaGreatM16
import Derived.Deep.CutRange
import Derived.BigRegion
import Derived.Test.YtmmbblfmhcegcaaGreatM04
import Derived.Test.YtmmbblfmhcegcaaGreatM17
import Derived.Test.YtmmbblfmhcegcaaGreatM11

namespace Go.Proofs.YtmmbblfmhcegcaaGreat
open Go.RowKit
attribute [local go_sem] grown_cell grown_frozen

theorem two_new_ (W : World) (t u : TypeId) (c d : Array Value) : Below W.heap.size W ((W.alloc (.cells c t)).alloc (.cells d u)).drew ∧ Blk ((W.alloc (.cells c t)).alloc (.cells d u)).drew W.heap.size t c ∧ Blk ((W.alloc (.cells c t)).alloc (.cells d u)).drew (W.heap.size + 1) u d := by
  have hb : Below W.heap.size W ((W.alloc (.cells c t)).alloc (.cells d u)) := ((Below.refl W.heap.size W).alloc (Nat.le_refl _) _).alloc (by simp) _
  have h1 : Blk ((W.alloc (.cells c t)).alloc (.cells d u)) W.heap.size t c := (Blk.new_ rfl _ _).alloc _
  have h2 : Blk ((W.alloc (.cells c t)).alloc (.cells d u)) (W.heap.size + 1) u d := Blk.new_ (by simp) _ _
  generalize (W.alloc (.cells c t)).alloc (.cells d u) = V at *
  exact ⟨⟨hb.os, hb.tape, hb.output, hb.size, hb.block⟩, h1, h2⟩


set_option maxRecDepth 100000 in
set_option maxHeartbeats 8000000 in
theorem rsame14_any (l m : List St) (a b : List Int) (wl wm : Int) (lv av mv bv : Value) (w : World) (hl : RdT w w.heap.size lv l) (ha : RdI w w.heap.size av a) (hm : RdT w w.heap.size mv m) (hb : RdI w w.heap.size bv b) :
    Calls Tryz.prog 17 #[atV lv av wl, atV mv bv wm] w fun e w' => e = .returned (.bool (nsameB l a wl m b wm)) ∧ Below w.heap.size w w' := by
  have he := hide fun w1 (hb1 : Below w.heap.size w w1) => ints14_any a b av bv w1 (ha.below hb1 hb1.size) (hb.below hb1 hb1.size)
  obtain ⟨Aa, ka, rfl⟩ := rd_form ha
  obtain ⟨Ab, kb, rfl⟩ := rd_form hb
  clear ha hb
  obtain ⟨A, cap, b1, off, rfl, h2, h3, h4, h5⟩ := hl
  obtain ⟨A', cap', b2, off', rfl, g2, g3, g4, g5⟩ := hm
  have hX := hide (((Below.refl w.heap.size w).alloc (Nat.le_refl _) (.cells #[.slice A l.length cap, .slice Aa a.length ka, .int .i64 wl] 30)).alloc (by simp) (.cells #[.slice A' m.length cap', .slice Ab b.length kb, .int .i64 wm] 30))
  by_cases hne : l.length ≠ m.length
  · have hf : nsameB l a wl m b wm = false := by simp [nsameB]; rintro rfl; exact absurd rfl hne
    have hd : ((l.length : Int) == m.length) = false := by simp; omega
    have hd' : ((l.length : Int) != m.length) = true := by simp; omega
    clear h4 h5 g4 g5 hne he
    rw [hf]
    go_enter Tryz.func17, Tryz.ntmps17
    go_wp2
    go_ret
    exact ⟨rfl, hX.out⟩
  have hl := hide (Decidable.not_not.1 hne)
  have hd : ((l.length : Int) == m.length) = true := by simp [hl.out]
  have hd' : ((l.length : Int) != m.length) = false := by simp [hl.out]
  clear hne
  by_cases hab : a = b
  rotate_left
  · have hf : nsameB l a wl m b wm = false := by simp [nsameB, hab]
    simp only [hab, decide_false] at he
    clear h4 h5 g4 g5 hab
    rw [hf]
    go_enter Tryz.func17, Tryz.ntmps17
    go_wp2_with (go_at_call 30; (with_reducible refine (stayf (G := w.heap.size + 2) (he.out _ hX.out) (by simp)).mono ?_); rintro e w1 ⟨rfl, hc1, hf1, hz1, hB1⟩)
    go_ret
    exact ⟨rfl, hX.out.trans (hB1.out.mono (by omega))⟩
  subst hab
  simp only [decide_true] at he
  by_cases hw : wl = wm
  rotate_left
  · have hf : nsameB l a wl m a wm = false := by simp [nsameB, hw]
    have h1' : (wl == wm) = false := by simpa using hw
    have h1'' : (wl != wm) = true := by simpa using hw
    clear h4 h5 g4 g5 hw
    rw [hf]
    go_enter Tryz.func17, Tryz.ntmps17
    go_wp2_with (go_at_call 30; (with_reducible refine (stayf (G := w.heap.size + 2) (he.out _ hX.out) (by simp)).mono ?_); rintro e w1 ⟨rfl, hc1, hf1, hz1, hB1⟩)
    go_ret
    exact ⟨rfl, hX.out.trans (hB1.out.mono (by omega))⟩
  subst hw
  rw [show nsameB l a wl m a wl = decide (l = m) by simp [nsameB]]
  go_enter Tryz.func17, Tryz.ntmps17
  go_wp2_with (go_at_call 30; (with_reducible refine (stayf (G := w.heap.size + 2) (he.out _ hX.out) (by simp)).mono ?_); rintro e w1 ⟨rfl, hc1, hf1, hz1, hB1⟩)
  have hB1w := hide (hX.out.trans (hB1.out.mono (by omega)))
  have hz1' : w.heap.size + 2 ≤ w1.heap.size := hz1
  have hx1 := hide (((Blk.new w 30 #[.slice A l.length cap, .slice Aa a.length ka, .int .i64 wl]).alloc (.cells #[.slice A' m.length cap', .slice Ab a.length kb, .int .i64 wl] 30)).below hB1.out (by omega))
  have hx2 := hide ((Blk.new_ (g := w.heap.size + 1) (w := w.alloc (.cells #[.slice A l.length cap, .slice Aa a.length ka, .int .i64 wl] 30)) (by simp) 30 #[.slice A' m.length cap', .slice Ab a.length kb, .int .i64 wl]).below hB1.out (by omega))
  clear hd hd' he hc1 hf1 hz1 hB1 hX
  go_loopw [5] (fun i wr => ∃ k : Nat, k ≤ l.length ∧ i = .int .i64 k ∧ Hid (l.take k = m.take k) ∧ Below w1.heap.size w1 wr) (fun i _ => l.length - (intOf i).toNat)
  case atStart => exact ⟨0, by omega, rfl, hide rfl, Below.refl _ _⟩
  case round =>
    obtain ⟨k, hk, rfl, heq, hB⟩ := hrel
    have hzr := hB.size
    have x0 := (hx1.out.below hB (by omega)).cell 0
    have y0 := (hx2.out.below hB (by omega)).cell 0
    simp at x0 y0
    have hbw := hide (hB1w.out.trans (hB.mono hB1w.out.size))
    by_cases hlt : k < l.length
    · have hlt' : k < m.length := by have := hl.out; omega
      obtain ⟨rfl, hb⟩ := h4 (by omega)
      obtain ⟨rfl, hb'⟩ := g4 (by omega)
      have hx := List.getElem?_eq_getElem hlt
      have hy := List.getElem?_eq_getElem hlt'
      obtain ⟨vs, ⟨cv, rfl, hcv⟩, hat⟩ := h5 k l[k] hx
      obtain ⟨us, ⟨cu, rfl, hcu⟩, hat'⟩ := g5 k m[k] hy
      obtain ⟨c0, c1, c2, c3, c4, c5⟩ := (hat.below hbw.out hb).c6
      obtain ⟨d0, d1, d2, d3, d4, d5⟩ := (hat'.below hbw.out hb').c6
      have hno : decide (l[k] = m[k]) = false → Hid (decide (l = m) = false) := fun h => hide (by simpa using jne_at hx hy (of_decide_eq_false h))
      have hyes : l[k] = m[k] → Hid (l.take (k + 1) = m.take (k + 1)) := fun h => hide (jtake_snoc hx (h ▸ hy) heq.out)
      replace hno := hide hno
      replace hyes := hide hyes
      replace hcv := hide (hcv.below hbw.out hbw.out.size)
      replace hcu := hide (hcu.below hbw.out hbw.out.size)
      clear hat hat' h5 g5 hx hy heq h4 g4
      generalize l[k] = s at *
      generalize m[k] = t at *
      obtain ⟨a1, a2, a3, a4, a5, a6⟩ := s
      obtain ⟨b1', b2', b3, b4, b5, b6⟩ := t
      simp only at c0 c1 c2 c3 c4 c5 d0 d1 d2 d3 d4 d5 hcv hcu
      obtain ⟨Ac, kc, rfl⟩ := rd_form hcv.out
      obtain ⟨Au, ku, rfl⟩ := rd_form hcu.out
      have hki : (k : Int) < l.length := by omega
      have hki' : (k : Int) < m.length := by omega
      have hrz : w.heap.size + 1 < wr.heap.size := by omega
      have hbl1 : b1 < wr.heap.size := Nat.lt_of_lt_of_le hb hbw.out.size
      have hbl2 : b2 < wr.heap.size := Nat.lt_of_lt_of_le hb' hbw.out.size
      have hrz0 : w.heap.size < wr.heap.size := by omega
      replace hB := hide hB
      go_upto_region 6 with (fail)
      go_cut [6, 7] from 37 to 47 (fun x y w' => ∃ ga gb, x = .pointer (some ⟨ga, 0, none⟩) ∧ y = .pointer (some ⟨gb, 0, none⟩) ∧ Below wr.heap.size wr w' ∧
        Blk w' ga 41 #[.int .i64 a1, .int .i64 a2, .bool a3, .slice Ac a4.length kc, .int .i64 a5, .bool a6] ∧ Blk w' gb 41 #[.int .i64 b1', .int .i64 b2', .bool b3, .slice Au b4.length ku, .int .i64 b5, .bool b6])
      case first =>
        go_region
        · go_wp2
          go_meet
          exact ⟨_, _, rfl, rfl, (two_new_ wr _ _ _ _).1, (two_new_ wr _ _ _ _).2.1, (two_new_ wr _ _ _ _).2.2⟩
        · go_wp2
          go_meet
          exact ⟨_, _, rfl, rfl, (two_new_ wr _ _ _ _).1, (two_new_ wr _ _ _ _).2.2, (two_new_ wr _ _ _ _).2.1⟩
      case rest =>
      obtain ⟨ga, gb, rfl, rfl, hBc, hA, hC⟩ := hcut
      obtain ⟨W3, rfl⟩ : ∃ W3 : World, W3 = wc := ⟨_, rfl⟩
      have hb3 := hide (hbw.out.trans (hBc.mono hbw.out.size))
      have hb3r := hide (hB.out.trans (hBc.mono hzr))
      have hcall := hide fun w1 (hb : Below W3.heap.size W3 w1) => ints14_any a4 b4 _ _ w1 ((hcv.out.below hBc hBc.size).below hb hb.size) ((hcu.out.below hBc hBc.size).below hb hb.size)
      have hlA := hA.lt
      have hlC := hC.lt
      have e0 := hA.cell 0
      have f0 := hC.cell 0
      have e1 := hA.cell 1
      have f1 := hC.cell 1
      have e2 := hA.cell 2
      have f2 := hC.cell 2
      have e3 := hA.cell 3
      have f3 := hC.cell 3
      have e4 := hA.cell 4
      have f4 := hC.cell 4
      have e5 := hA.cell 5
      have f5 := hC.cell 5
      simp at e0 e1 e2 e3 e4 e5 f0 f1 f2 f3 f4 f5
      replace hA := hide hA
      replace hC := hide hC
      clear hBc hcv hcu c0 c1 c2 c3 c4 c5 d0 d1 d2 d3 d4 d5 x0 y0
      by_cases q1 : a1 = b1'
      rotate_left
      · have hn := hno.out (st_ne (fun h => q1 (by obtain ⟨q1, q2, q3, q4, q5, q6⟩ := h; assumption)))
        have z1 : (a1 == b1') = false := by simpa using q1
        have z2 : (a1 != b1') = true := by simpa using q1
        clear q1 hno hyes hcall
        go_wp2
        go_ret
        exact ⟨jret_bool hn.out.symm, hb3.out⟩
      subst q1
      by_cases q2 : a2 = b2'
      rotate_left
      · have hn := hno.out (st_ne (fun h => q2 (by obtain ⟨q1, q2, q3, q4, q5, q6⟩ := h; assumption)))
        have z1 : (a2 == b2') = false := by simpa using q2
        have z2 : (a2 != b2') = true := by simpa using q2
        clear q2 hno hyes hcall
        go_wp2
        go_ret
        exact ⟨jret_bool hn.out.symm, hb3.out⟩
      subst q2
      by_cases q3 : a3 = b3
      rotate_left
      · have hn := hno.out (st_ne (fun h => q3 (by obtain ⟨q1, q2, q3, q4, q5, q6⟩ := h; assumption)))
        have z1 : (a3 == b3) = false := by simpa using q3
        have z2 : (a3 != b3) = true := by simpa using q3
        clear q3 hno hyes hcall
        go_wp2
        go_ret
        exact ⟨jret_bool hn.out.symm, hb3.out⟩
      subst q3
      by_cases q4 : a4 = b4
      rotate_left
      · have hn := hno.out (st_ne (fun h => q4 (by obtain ⟨q1, q2, q3, q4, q5, q6⟩ := h; assumption)))
        simp only [q4, decide_false] at hcall
        clear q4 hno hyes
        go_wp2_with (go_at_call 30; (with_reducible refine (stayf (G := W3.heap.size) (hcall.out _ (Below.refl _ _)) (Nat.le_refl _)).mono ?_); rintro e w5 ⟨rfl, hc5, hf5, hz5, hB5⟩)
        go_ret
        exact ⟨jret_bool hn.out.symm, hb3.out.trans (hB5.out.mono hb3.out.size)⟩
      subst q4
      simp only [decide_true] at hcall
      by_cases q5 : a5 = b5
      rotate_left
      · have hn := hno.out (st_ne (fun h => q5 (by obtain ⟨q1, q2, q3, q4, q5, q6⟩ := h; assumption)))
        have z1 : (a5 == b5) = false := by simpa using q5
        have z2 : (a5 != b5) = true := by simpa using q5
        clear q5 hno hyes
        go_wp2_with (go_at_call 30; (with_reducible refine (stayf (G := W3.heap.size) (hcall.out _ (Below.refl _ _)) (Nat.le_refl _)).mono ?_); rintro e w5 ⟨rfl, hc5, hf5, hz5, hB5⟩)
        go_ret
        exact ⟨jret_bool hn.out.symm, hb3.out.trans (hB5.out.mono hb3.out.size)⟩
      subst q5
      by_cases q6 : a6 = b6
      rotate_left
      · have hn := hno.out (st_ne (fun h => q6 (by obtain ⟨q1, q2, q3, q4, q5, q6⟩ := h; assumption)))
        have z1 : (a6 == b6) = false := by simpa using q6
        have z2 : (a6 != b6) = true := by simpa using q6
        clear q6 hno hyes
        go_wp2_with (go_at_call 30; (with_reducible refine (stayf (G := W3.heap.size) (hcall.out _ (Below.refl _ _)) (Nat.le_refl _)).mono ?_); rintro e w5 ⟨rfl, hc5, hf5, hz5, hB5⟩)
        go_ret
        exact ⟨jret_bool hn.out.symm, hb3.out.trans (hB5.out.mono hb3.out.size)⟩
      subst q6
      have hn := hyes.out rfl
      clear hno hyes
      go_wp2_with (go_at_call 30; (with_reducible refine (stayf (G := W3.heap.size) (hcall.out _ (Below.refl _ _)) (Nat.le_refl _)).mono ?_); rintro e w5 ⟨rfl, hc5, hf5, hz5, hB5⟩)
      exact ⟨⟨k + 1, by omega, rfl, hn, hb3r.out.trans (hB5.out.mono hb3r.out.size)⟩, by simp [intOf]; omega⟩
    · obtain rfl : k = l.length := by omega
      have hi : Hid (decide (l = m) = true) := hide (by simpa using jeq_of_take hl.out heq.out)
      clear h4 h5 g4 g5
      go_wp2
      go_ret
      exact ⟨jret_bool hi.out.symm, hbw.out⟩
end Go.Proofs.YtmmbblfmhcegcaaGreat

namespace Go.Proofs.YtmmbblfmhcegcaaGreat
open Go.RowKit

theorem state_info : (Tryz.prog.info? 41).map (fun i => (i.zero, i.size, i.bytes)) = some (some (.agg #[.int .i64 0, .int .i64 0, .bool false, .slice none 0 0, .int .i64 0, .bool false]), 6, 64) := by kernel_rfl
/-- The cells of a state whose guards are x.2. -/
def stc (x : St × Value) : List Value := [.int .i64 x.1.step, .int .i64 x.1.place, .bool x.1.strict, x.2, .int .i64 x.1.ahead, .bool x.1.last]
theorem st_len (x : St × Value) : (stc x).length = 6 := rfl
/-- v is a slice of the call's own, of the states of zs; their guards lie where zs tells. -/
def OwS (w : World) (base : Nat) (v : Value) (zs : List (St × Value)) : Prop := w.ownsRow base 41 6 v zs.length (zs.flatMap stc)
theorem rdi_one {w : World} {B : Nat} {v : Value} {l : List Int} (h : RdI w B v l) : v.oneCell' = true := by
  obtain ⟨A, c, rfl⟩ := rd_form h
  rfl
/-- The steps of a slice that reads, and where their comparisons lie. -/
theorem RdT.pairs {w : World} {B : Nat} {v : Value} {p : List St} (h : RdT w B v p) : ∃ ps : List (St × Value), ps.map (·.1) = p ∧ (∀ x ∈ ps, RdI w B x.2 x.1.guards) ∧
    ∃ (A : Option Addr) (cap b off : Nat), v = .slice A ps.length cap ∧ ps.length ≤ cap ∧ cap ≤ 9223372036854775807 ∧ (0 < ps.length → A = some ⟨b, off, none⟩ ∧ b < B) ∧ ∀ i x, ps[i]? = some x → At w b (off + i * 6) (stc x) := by
  obtain ⟨A, cap, b, off, h1, h2, h3, h4, h5⟩ := h
  have each : ∀ i : Nat, ∃ cv : Value, ∀ s, p[i]? = some s → RdI w B cv s.guards ∧ At w b (off + i * 6) (stc (s, cv)) := by
    intro i
    cases hi : p[i]? with
    | none => exact ⟨undef, fun s hs => by cases hs⟩
    | some s =>
      obtain ⟨cs, ⟨cv, rfl, hr⟩, hat⟩ := h5 i s hi
      exact ⟨cv, fun s' hs' => by cases hs'; exact ⟨hr, hat⟩⟩
  obtain ⟨f, hf⟩ := Classical.axiomOfChoice each
  have hl : (p.mapIdx fun i s => (s, f i)).length = p.length := by simp
  have hg : ∀ i x, (p.mapIdx fun i s => (s, f i))[i]? = some x → ∃ s, p[i]? = some s ∧ x = (s, f i) := by
    intro i x hx
    rw [List.getElem?_mapIdx, Option.map_eq_some_iff] at hx
    obtain ⟨s, hs, rfl⟩ := hx
    exact ⟨s, hs, rfl⟩
  refine ⟨p.mapIdx fun i s => (s, f i), ?_, ?_, A, cap, b, off, by rw [hl]; exact h1, by rw [hl]; exact h2, h3, by rw [hl]; exact h4, ?_⟩
  · apply List.ext_getElem?
    intro i
    rw [List.getElem?_map, List.getElem?_mapIdx]
    cases p[i]? <;> rfl
  · intro x hx
    obtain ⟨i, hi, rfl⟩ := List.mem_iff_getElem.1 hx
    obtain ⟨s, hs, e⟩ := hg i _ (List.getElem?_eq_getElem hi)
    rw [e]
    exact (hf i s hs).1
  · intro i x hx
    obtain ⟨s, hs, rfl⟩ := hg i x hx
    exact (hf i s hs).2
theorem news_state {w : World} {ps : List (St × Value)} {b off : Nat} (h : ∀ i x, ps[i]? = some x → At w b (off + i * 6) (stc x)) :
    ∀ j u, (ps.flatMap stc)[j]? = some u → w.cell? ((⟨b, off, none⟩ : Addr).add j) = some u := by
  intro j u hu
  have hlt := (List.getElem?_eq_some_iff.1 hu).1
  rw [flat_len st_len] at hlt
  have hi : j / 6 < ps.length := by omega
  have hat := h (j / 6) ps[j / 6] (List.getElem?_eq_getElem hi)
  have hj : j = j / 6 * 6 + j % 6 := by omega
  rw [hj, flat_get st_len (List.getElem?_eq_getElem hi) (Nat.mod_lt _ (by omega))] at hu
  have := hat (j % 6) u hu
  rw [Addr.add_lit]
  rw [show off + j = off + j / 6 * 6 + j % 6 by omega]
  exact this

set_option maxRecDepth 100000 in
theorem clone_state (p : List St) (v : Value) (w : World) (B : Nat) (h : RdT w B v p) (hB : B ≤ w.heap.size) (hlen : p.length ≤ 900000) :
    Calls Tryz.prog 35 #[v] w fun e w' => (∃ v' ps, e = .returned v' ∧ OwS w' w.heap.size v' ps ∧ ps.map (·.1) = p ∧ ∀ x ∈ ps, RdI w B x.2 x.1.guards) ∧ Below w.heap.size w w' := by
  obtain ⟨ps, hps, hrd, A, cap, b, off, rfl, h2, h3, h4, h5⟩ := RdT.pairs h
  have hpl : ps.length ≤ 900000 := by rw [← hps] at hlen; simpa using hlen
  have hone : ∀ u ∈ ps.flatMap stc, u.oneCell' = true := by
    intro u hu
    obtain ⟨x, hx, hu⟩ := List.mem_flatMap.1 hu
    simp only [stc, List.mem_cons, List.not_mem_nil, or_false] at hu
    rcases hu with rfl | rfl | rfl | rfl | rfl | rfl <;> first | rfl | exact rdi_one (hrd x hx)
  have hq : ∀ (w : World) (a : Option Addr) (n c n' c' : Nat), (binOp .eql 27 (.slice a n c) (.slice none n' c')).run Tryz.prog w = .ok (.bool a.isNone) w := fun w a n c n' c' => Lib.run_eql_slice_nil w _ _ a n c n' c' Tryz.underlying27
  obtain ⟨i0, hi, hz0, hz1, hz2⟩ := info_parts state_info
  have hps := hide hps
  have hrd := hide hrd
  cases A with
  | none =>
    have hn : ps = [] := by
      rcases Nat.eq_zero_or_pos ps.length with h0 | h0
      · exact List.eq_nil_of_length_eq_zero h0
      · exact absurd (h4 h0).1 (by simp)
    subst hn
    clear h4 h5 hi hz0 hz1 hz2
    go_enter Tryz.func35, Tryz.ntmps35
    go_wp2
    go_ret
    exact ⟨⟨_, [], rfl, World.ownsRow_nil _ _ _ _, hps.out, by simp⟩, Below.refl _ _⟩
  | some ad =>
    have hnews : ∀ j u, (ps.flatMap stc)[j]? = some u → w.cell? (ad.add j) = some u := by
      intro j u hu
      have h0 : 0 < ps.length := by
        have := (List.getElem?_eq_some_iff.1 hu).1
        rw [flat_len st_len] at this
        omega
      obtain ⟨e, -⟩ := h4 h0
      obtain rfl := Option.some.inj e
      exact news_state h5 j u hu
    have hlt : 0 < ps.length → ad.block < w.heap.size := fun h0 => by
      obtain ⟨e, hb⟩ := h4 h0
      obtain rfl := Option.some.inj e
      exact Nat.lt_of_lt_of_le hb hB
    have hN := hide hnews
    have hL := hide hlt
    have hO := hide hone
    clear h4 h5 hnews hlt hone
    go_enter Tryz.func35, Tryz.ntmps35
    go_wp2_with (at_builtin; refine wpList_append_own_at _ rfl _ _ 27 rfl w.heap.size 41 i0 _ 6 64 Tryz.underlying27 hi hz0 hz1 hz2 rfl (by decide) _ 0 [] rfl (World.ownsRow_made w #[] 0 (Nat.le_refl _) (Nat.zero_le _) rfl) ad ps.length cap (ps.flatMap stc) rfl ?qc1 ?qc2 ?qc3 ?qc4 ?qc5 ?qc6 ?_)
    case qc1 => exact flat_len st_len ps
    case qc2 =>
      intro j u hu
      have h0 : 0 < ps.length := by
        have := (List.getElem?_eq_some_iff.1 hu).1
        rw [flat_len st_len] at this
        omega
      have := hN.out j u hu
      refine (World.cell?_alloc_lt w _ _ ?_).trans this
      have hb := hL.out h0
      unfold Addr.add
      split <;> simpa using hb
    case qc3 => exact hO.out
    case qc4 => unfold maxLen; omega
    case qc5 => omega
    case qc6 => simp
    intro v' w1 hown1 hg1 _ hat
    go_wp2
    go_ret
    exact ⟨⟨_, ps, rfl, by simpa [OwS] using hown1, hps.out, hrd.out⟩, ((Below.refl _ _).alloc (Nat.le_refl _) _).grown hg1 (by simp) (fun k hk => by simp [Value.ownBlock] at hk; omega)⟩

end Go.Proofs.YtmmbblfmhcegcaaGreat

namespace Go.Proofs.YtmmbblfmhcegcaaGreat
open Go.RowKit Go.Shelf

theorem rdt_of_row {w : World} {base : Nat} {v : Value} {zs : List (St × Value)} (h : OwS w base v zs) (hc : ∀ x ∈ zs, RdI w w.heap.size x.2 x.1.guards) : RdT w w.heap.size v (zs.map (·.1)) := by
  have h1 : RdL 6 (fun w B (x : St × Value) cs => cs = stc x ∧ RdI w B x.2 x.1.guards) w w.heap.size v zs := own_rd st_len h fun x hx => ⟨rfl, hc x hx⟩
  obtain ⟨A, cap, b, off, h1, h2, h3, h4, h5⟩ := h1
  refine ⟨A, cap, b, off, by simpa using h1, by simpa using h2, h3, by simpa using h4, fun i s hs => ?_⟩
  simp only [List.getElem?_map, Option.map_eq_some_iff] at hs
  obtain ⟨x, hx, rfl⟩ := hs
  obtain ⟨cs, ⟨rfl, hr⟩, hat⟩ := h5 i x hx
  exact ⟨_, ⟨x.2, rfl, hr⟩, hat⟩
theorem OwS.at {w : World} {base : Nat} {v : Value} {zs : List (St × Value)} (h : OwS w base v zs) {i : Nat} {x : St × Value} (hx : zs[i]? = some x) :
    ∃ g cap cur, v = .slice (some ⟨g, 0, none⟩) zs.length cap ∧ base ≤ g ∧ g < w.heap.size ∧ At w g (i * 6) (stc x) ∧ w.heap[g]? = some (.cells cur 41 (0, 0)) ∧ i * 6 + 5 < cur.size ∧ zs.length ≤ cap := by
  have hi := (List.getElem?_eq_some_iff.1 hx).1
  rcases h.2 with ⟨h2, h3⟩ | ⟨g, cap, cur, hv, hg, hh, hn, hm, hcs, htk⟩
  · omega
  · subst hv
    refine ⟨g, cap, cur, rfl, hg, (Array.getElem?_eq_some_iff.1 hh).1, fun j u hu => ?_, hh, by rw [hcs]; omega, hn⟩
    have hj : j < 6 := by
      have := (List.getElem?_eq_some_iff.1 hu).1
      rwa [st_len] at this
    have hlt : i * 6 + j < zs.length * 6 := by omega
    have := World.ownsRow.cellAt h _ hlt
    rw [flat_get st_len hx hj] at this
    rw [this, hu]

theorem grown_below' {n g : Nat} {A B : World} (h : A.grownBy B (some g)) (hn : n ≤ g) (hs : n ≤ A.heap.size) : Below n A B := ⟨h.os, h.tape, h.output, h.size, fun k hk => h.block k (by omega) (fun e => by have := Option.some.inj e; omega)⟩
theorem grown_then {g : Nat} {A B C : World} (h : A.grownBy B (some g)) (k : Below B.heap.size B C) : A.grownBy C (some g) :=
  ⟨k.os.trans h.os, k.tape.trans h.tape, k.output.trans h.output, Nat.le_trans h.size k.size, fun j hj hne => (k.block j (Nat.lt_of_lt_of_le hj h.size)).trans (h.block j hj hne)⟩
theorem OwLL.kept {w w' : World} {G : Nat} {v : Value} {q : List (List Int)} {vs : List Value} {g : Nat} (h : OwLL w G v q vs) (hg : w.grownBy w' (some g)) (hlt : g < G) : OwLL w' G v q vs := by
  have key : ∀ {e sz n u xs}, w.ownsRow G e sz u n xs → u.ownBlock = none ∨ u.ownBlock ≠ some g := fun {e sz n u xs} ho => by
    cases hb : u.ownBlock with
    | none => exact .inl rfl
    | some k =>
      right
      intro e
      have := (World.ownsRow.lt ho k hb).1
      have := Option.some.inj e
      omega
  exact ⟨World.ownsRow.kept h.row hg (key h.row), fun j r l h1 h2 => OwI.kept (h.els j r l h1 h2) hg (key (h.els j r l h1 h2))⟩
theorem OwLL.at {w : World} {G : Nat} {v : Value} {q : List (List Int)} {vs : List Value} (h : OwLL w G v q vs) {j : Nat} (hj : j < q.length) :
    ∃ g cap A c, v = .slice (some ⟨g, 0, none⟩) q.length cap ∧ q.length ≤ cap ∧ G ≤ g ∧ g < w.heap.size ∧ w.cell? ⟨g, j, none⟩ = some (.slice A q[j].length c) ∧ OwI w G (.slice A q[j].length c) q[j] := by
  have hc := fun g => World.ownsRow.cells (g := g) h.row
  have hl := h.len
  have hv : vs[j]? = some vs[j] := List.getElem?_eq_getElem (by omega)
  have ho := h.els j vs[j] q[j] hv (List.getElem?_eq_getElem hj)
  obtain ⟨A, c, he⟩ := ho.form
  rw [he] at ho hv
  rcases h.row.2 with ⟨rfl, hq⟩ | ⟨g, cap, cur, rfl, hGg, hg, hcap, hmax, -, -⟩
  · omega
  · refine ⟨g, cap, A, c, rfl, hcap, hGg, (Array.getElem?_eq_some_iff.1 hg).1, ?_, ho⟩
    have := hc g rfl j _ hv
    rw [Addr.add_lit] at this
    simpa using this

/-- The states so far: L, in the row sv of the automaton's variable. -/
structure NewI (n0 : Nat) (Y1 : World) (win : Int) (L : List St) (sv : Value) (zs : List (St × Value)) (X : World) : Prop where
  grow : Y1.grownBy X (some (n0 + 1))
  box : Blk X (n0 + 1) 30 #[sv, .slice none 0 0, .int .i64 win]
  row : OwS X Y1.heap.size sv zs
  gs : ∀ x ∈ zs, OwI X Y1.heap.size x.2 x.1.guards
  eq : zs.map (·.1) = L
section
variable {n0 : Nat} {Y1 X X' : World} {win : Int} {L : List St} {sv : Value} {zs : List (St × Value)}
theorem NewI.below (h : NewI n0 Y1 win L sv zs X) (hb : Below X.heap.size X X') : NewI n0 Y1 win L sv zs X' :=
  ⟨grown_then h.grow hb, h.box.below hb h.box.lt, own_below h.row hb (Nat.le_refl _), fun x hx => (h.gs x hx).below hb (Nat.le_refl _), h.eq⟩
theorem NewI.alloc (h : NewI n0 Y1 win L sv zs X) (o : Obj) : NewI n0 Y1 win L sv zs (X.alloc o) := h.below ((Below.refl _ _).alloc (Nat.le_refl _) _)
theorem NewI.len (h : NewI n0 Y1 win L sv zs X) : zs.length = L.length := by rw [← h.eq]; simp
theorem NewI.rd (h : NewI n0 Y1 win L sv zs X) : RdT X X.heap.size sv L := by rw [← h.eq]; exact rdt_of_row h.row fun x hx => (h.gs x hx).rd
theorem NewI.form (h : NewI n0 Y1 win L sv zs X) : ∃ A c, sv = .slice A L.length c := by rw [← h.len]; exact own_form h.row
theorem NewI.own (h : NewI n0 Y1 win L sv zs X) (hn : n0 + 1 < Y1.heap.size) : some (n0 + 1) ≠ sv.ownBlock := fun e => by have := (World.ownsRow.lt h.row _ e.symm).1; omega
theorem NewI.gne (h : NewI n0 Y1 win L sv zs X) (hn : n0 + 1 < Y1.heap.size) {x : St × Value} (hx : x ∈ zs) : some (n0 + 1) ≠ x.2.ownBlock := fun e => by have := (OwI.lt (h.gs x hx) _ e.symm).1; omega
theorem NewI.base (h : NewI n0 Y1 win L sv zs X) (hn : n0 + 1 < Y1.heap.size) : Below n0 Y1 X := grown_below' h.grow (by omega) (by omega)
/-- A store elsewhere. -/
theorem NewI.set_ (h : NewI n0 Y1 win L sv zs X) {p : Addr} (hp : Y1.heap.size ≤ p.block) (hn : n0 + 1 < Y1.heap.size) (h1 : some p.block ≠ sv.ownBlock) (h2 : ∀ x ∈ zs, some p.block ≠ x.2.ownBlock) (u : Value) : NewI n0 Y1 win L sv zs (X.setCell p u) :=
  ⟨⟨h.grow.os, h.grow.tape, h.grow.output, by simpa [World.setCell] using h.grow.size, fun k hk hne => (Below.heap_setCell _ _ _ _ (by omega)).trans (h.grow.block k hk hne)⟩, h.box.far (by omega) u, own_set h.row h1 u, fun x hx => own_set (h.gs x hx) (h2 x hx) u, h.eq⟩
/-- One state more. -/
theorem NewI.push {w1 : World} {sv' : Value} {z : St × Value} (h : NewI n0 Y1 win L sv zs X) (hn : n0 + 1 < Y1.heap.size) (hrow : w1.ownsRow Y1.heap.size 41 6 sv' (zs.length + 1) (zs.flatMap stc ++ stc z)) (hg : X.grownBy w1 sv.ownBlock)
    (hz : OwI X Y1.heap.size z.2 z.1.guards) : NewI n0 Y1 win (L ++ [z.1]) sv' (zs ++ [z]) (w1.setCell ⟨n0 + 1, 0, none⟩ sv') := by
  have hne := h.own hn
  have hne' : some (n0 + 1) ≠ sv'.ownBlock := fun e => by have := (World.ownsRow.lt hrow _ e.symm).1; omega
  have own1 : ∀ x : St × Value, OwI X Y1.heap.size x.2 x.1.guards → OwI (w1.setCell ⟨n0 + 1, 0, none⟩ sv') Y1.heap.size x.2 x.1.guards := fun x hx =>
    own_set (OwI.kept hx hg (own_ne hx h.row (by decide))) (p := ⟨n0 + 1, 0, none⟩) (fun e => by have h9 : Y1.heap.size ≤ n0 + 1 := (OwI.lt hx _ e.symm).1; omega) _
  refine ⟨⟨hg.os.trans h.grow.os, hg.tape.trans h.grow.tape, hg.output.trans h.grow.output, ?_, fun k hk hk2 => ?_⟩, ?_, ?_, fun x hx => ?_, ?_⟩
  · have := h.grow.size
    have := hg.size
    simp only [World.setCell, Array.size_modify]
    omega
  · refine (Below.heap_setCell _ _ _ _ (fun e => hk2 (by rw [e]))).trans ((hg.block k (Nat.lt_of_lt_of_le hk h.grow.size) (fun e => ?_)).trans (h.grow.block k hk hk2))
    have := (World.ownsRow.lt h.row k e.symm).1
    omega
  · have hb : Blk w1 (n0 + 1) 30 #[sv, .slice none 0 0, .int .i64 win] := (hg.block _ h.box.lt hne).trans h.box
    simpa using hb.set_ 0 sv'
  · have := own_set hrow (p := ⟨n0 + 1, 0, none⟩) hne' sv'
    simpa [OwS, List.flatMap_append] using this
  · rcases List.mem_append.1 hx with hm | hm
    · exact own1 x (h.gs x hm)
    · rw [List.mem_singleton.1 hm]
      exact own1 z hz
  · rw [List.map_append, h.eq]
    rfl
/-- A state is marked as a last one. -/
theorem NewI.last_ {i g cap : Nat} {x : St × Value} (h : NewI n0 Y1 win L (.slice (some ⟨g, 0, none⟩) zs.length cap) zs X) (hn : n0 + 1 < Y1.heap.size) (hx : zs[i]? = some x) :
    NewI n0 Y1 win (setLast L i) (.slice (some ⟨g, 0, none⟩) zs.length cap) (zs.set i ({ x.1 with last := true }, x.2)) (X.setCell ⟨g, i * 6 + 5, none⟩ (.bool true)) := by
  have hgb := World.ownsRow.lt h.row g rfl
  refine ⟨⟨h.grow.os, h.grow.tape, h.grow.output, by simpa [World.setCell] using h.grow.size, fun k hk hne => (Below.heap_setCell _ _ _ _ (by show k ≠ g; omega)).trans (h.grow.block k hk hne)⟩, h.box.far (by show n0 + 1 ≠ g; omega) _, ?_, fun y hy => ?_, ?_⟩
  · have hst := (World.ownsRow.stored h.row (i * 6 + 5) (.bool true)).1
    rw [flat_set st_len hx (by omega) (y := ({ x.1 with last := true }, x.2)) (by rfl)] at hst
    simpa [OwS] using hst
  · have hne : ∀ z ∈ zs, some g ≠ z.2.ownBlock := fun z hz e => by
      rcases own_ne (h.gs z hz) h.row (by decide) with e1 | e1
      · rw [e1] at e
        cases e
      · exact e1 e.symm
    rcases List.mem_or_eq_of_mem_set hy with hm | rfl
    · exact own_set (h.gs y hm) (p := ⟨g, i * 6 + 5, none⟩) (hne y hm) _
    · exact own_set (h.gs x (List.mem_of_getElem? hx)) (p := ⟨g, i * 6 + 5, none⟩) (hne x (List.mem_of_getElem? hx)) _
  · rw [← h.eq]
    apply List.ext_getElem?
    intro j
    simp only [setLast, List.getElem?_map, List.getElem?_set, List.getElem?_modify]
    by_cases e : i = j
    · subst e
      obtain ⟨hi, rfl⟩ := List.getElem?_eq_some_iff.1 hx
      simp [hi]
    · simp [e]
end

/-- A row of ints that a round lays on, in a field of a block. -/
def FldI (W0 : World) (Bx i : Nat) (t : TypeId) (cs : Array Value) (pre : List Int) (gv : Value) (W : World) : Prop := W0.grownBy W (some Bx) ∧ Blk W Bx t (cs.setIfInBounds i gv) ∧ OwI W W0.heap.size gv pre
section
variable {W0 W W' w1 : World} {Bx i : Nat} {t : TypeId} {cs : Array Value} {pre : List Int} {gv v1 : Value} {x : Int}
theorem FldI.kept {n : Nat} (h : FldI W0 Bx i t cs pre gv W) (hn : W0.heap.size ≤ n) (k : Kept n W W') : FldI W0 Bx i t cs pre gv W' :=
  ⟨⟨k.below.os.trans h.1.os, k.below.tape.trans h.1.tape, k.below.output.trans h.1.output, Nat.le_trans h.1.size k.below.size, fun j hj hne => (k.below.block j (by omega)).trans (h.1.block j hj hne)⟩, k.cells _ _ h.2.1 rfl, h.2.2.keptK k⟩
theorem FldI.step {o : Obj} (h : FldI W0 Bx i t cs pre gv W) (hb : Bx < W0.heap.size) (hown : OwI w1 W0.heap.size v1 (pre ++ [x])) (hg : (W.alloc o).grownBy w1 gv.ownBlock) :
    Blk w1 Bx t (cs.setIfInBounds i gv) ∧ FldI W0 Bx i t cs (pre ++ [x]) v1 (w1.setCell ⟨Bx, i, none⟩ v1) ∧ KeepsOthers W (w1.setCell ⟨Bx, i, none⟩ v1) := by
  obtain ⟨h1, h2, h3⟩ := h
  have hne : some Bx ≠ gv.ownBlock := fun e => by have := (OwI.lt h3 _ e.symm).1; omega
  have hne1 : some Bx ≠ v1.ownBlock := fun e => by have := (OwI.lt hown _ e.symm).1; omega
  have hlt := h2.lt
  have hb1 : Blk w1 Bx t (cs.setIfInBounds i gv) := (hg.block Bx (by simp; omega) hne).trans (h2.alloc o)
  have hz := h1.size
  have hz2 := hg.size
  simp at hz2
  refine ⟨hb1, ⟨⟨hg.os.trans h1.os, hg.tape.trans h1.tape, hg.output.trans h1.output, by simp [World.setCell]; omega, fun k hk hk2 => ?_⟩, ?_, own_set hown (p := ⟨Bx, i, none⟩) hne1 v1⟩, ?_⟩
  · refine (Below.heap_setCell _ _ _ _ (fun e => hk2 (by rw [e]))).trans ((hg.block k (by simp; omega) (fun e => ?_)).trans ((Below.heap_alloc _ _ _ (by omega)).trans (h1.block k hk hk2)))
    have := (OwI.lt h3 k e.symm).1
    omega
  · have := hb1.set_ i v1
    simpa using this
  · exact ((KeepsOthers.alloc W o).trans (OwI.others (h3.alloc o) hg)).trans (KeepsOthers.setCell _ _ _)
theorem KpN.of_grown {n b : Nat} (h : W0.grownBy W (some Bx)) (h' : W0.grownBy W' (some Bx)) (hs : W.heap.size ≤ W'.heap.size) (hn : n ≤ Bx) (hn0 : n ≤ W0.heap.size) (hb : b + 3 ≤ W0.heap.size) (hx : Bx < b) : KpN n b W W' :=
  ⟨⟨h'.os.trans h.os.symm, h'.tape.trans h.tape.symm, h'.output.trans h.output.symm, hs, fun k hk => (h'.block k (by omega) (fun e => by have := Option.some.inj e; omega)).trans (h.block k (by omega) (fun e => by have := Option.some.inj e; omega)).symm⟩,
    fun k h1 h2 => (h'.block k (by omega) (fun e => by have := Option.some.inj e; omega)).trans (h.block k (by omega) (fun e => by have := Option.some.inj e; omega)).symm⟩
end
end Go.Proofs.YtmmbblfmhcegcaaGreat
