/- Patterns told in memory of their own: the walk of the reference's Own. -/
import Derived.Test.YtidddeobachjgaaLibT
import Derived.Deep.Cut
namespace Go.Proofs.Ytidddeobachjgaa
open Go.RowKit

theorem some_ne' {a b : Nat} (h : a ≠ b) : some a ≠ some b := fun e => h (Option.some.inj e)
theorem ownC_new {w w' : World} {base g : Nat} (h : w' = w.alloc (.cells #[] 36)) (hg : w.heap.size = g) (hb : base ≤ g) : OwC w' base (.slice (some ⟨g, 0, none⟩) 0 0) [] := by
  subst h hg
  exact ⟨World.ownsRow_made _ #[] 0 hb (by decide) rfl, by simp⟩
theorem take_map_snoc {p : List Sp} {ps : List (Sp × Value)} {k : Nat} {s : Sp} {u : Value} (h : ps.map (·.1) = p.take k) (hs : p[k]? = some s) : (ps ++ [(s, u)]).map (·.1) = p.take (k + 1) := by
  simp [h, List.take_add_one, hs]

set_option maxRecDepth 100000 in
set_option maxHeartbeats 4000000 in
theorem rown_any (p : List Sp) (win : Int) (v : Value) (w : World) (h : RdS w w.heap.size v p) (hlen : p.length ≤ 1000) (hcl : ∀ s ∈ p, s.cmps.length ≤ 1000) :
    Calls Try.prog 15 #[ptV v win] w fun e w' => (∃ sv ps, e = .returned (ptV sv win) ∧ OwP w' w.heap.size sv ps ∧ ps.map (·.1) = p) ∧ Below w.heap.size w w' := by
  obtain ⟨A, cap, b, off, rfl, h2, h3, h4, h5⟩ := h
  replace hcl := hide hcl
  go_enter Try.func15, Try.ntmps15
  go_wp2
  go_loopw [4] (fun i wr => ∃ (k : Nat) (sv : Value) (ps : List (Sp × Value)), k ≤ p.length ∧ i = .int .i64 k ∧ Blk wr w.heap.size 24 #[sv, .int .i64 win] ∧ Blk wr (w.heap.size + 1) 24 #[.slice none 0 0, .int .i64 0] ∧
      OwP wr w.heap.size sv ps ∧ Hid (ps.map (·.1) = p.take k) ∧ Below w.heap.size w wr) (fun i _ => p.length - (intOf i).toNat)
  case atStart =>
    exact ⟨0, .slice none 0 0, [], by omega, rfl, by simpa using (Blk.new_ (by simp) _ _).alloc _, Blk.new_ (by simp) _ _, OwP.nil _ _, hide rfl, ((Below.refl _ _).alloc (Nat.le_refl _) _).alloc (by simp) _⟩
  case round =>
    obtain ⟨k, sv, ps, hk, rfl, hb0, hb1, hown, hps, hB⟩ := hrel
    obtain ⟨As, ks, rfl⟩ := hown.form
    by_cases hlt : k < p.length
    · obtain ⟨rfl, hb⟩ := h4 (by omega)
      have hx := List.getElem?_eq_getElem hlt
      obtain ⟨cs, ⟨cv, rfl, hcv⟩, hat⟩ := h5 k p[k] hx
      obtain ⟨c0, c1, c2, c3, c4, c5⟩ := (hat.below hB hb).c6
      obtain ⟨Ac, kc, rfl⟩ : ∃ A cap, cv = .slice A p[k].cmps.length cap := by
        obtain ⟨A, cap, b, off, e, -⟩ := hcv
        exact ⟨A, cap, e⟩
      replace hcv := hide (hcv.below hB hB.size)
      have hps2 := hide fun u => take_map_snoc (u := u) hps.out hx
      have hl9 := hcl.out p[k] (by simp)
      clear hat h5 hx
      generalize p[k] = s at *
      obtain ⟨neg, kind, mn, mx, strict, cmps⟩ := s
      simp only at c0 c1 c2 c3 c4 c5 hl9
      have hlb := hb1.lt
      replace hb0 := hide hb0
      replace hb1 := hide hb1
      replace hown := hide hown
      replace hB := hide hB
      go_upto_region 8 with (at_builtin; refine app_cs (cs := cmps) (base := wr.heap.size) (B := wr.heap.size + 2) (.tmp 19) (.tmp 21) rfl rfl rfl rfl ?c1 ?c2 ?c3 ?c4 ?_)
      case c1 => exact ownC_new rfl (by simp) (by first | omega | (simp; done) | (simp; omega))
      case c2 => exact RdC.below hcv.out (((Below.refl _ _).alloc (Nat.le_refl _) _).alloc (by simp) _) (by omega)
      case c3 => omega
      case c4 => omega
      intro v1 w1 ho1 hg1 hat1
      have hS1 := hide ((((Blk.new_ (w := wr) rfl _ _).alloc _).grown hg1 (some_ne' (b := wr.heap.size + 1) (by omega))))
      have e5 := hS1.out.cell 5
      have f5 := hS1.out.frozen 5
      obtain ⟨A1, k1, hv1⟩ := own_form ho1.1
      subst hv1
      replace ho1 := hide ho1
      replace hg1 := hide hg1
      go_upto_region 8 with (fail)
      have hbl : Below wr.heap.size wr (w1.setCell ⟨wr.heap.size, 5, none⟩ (.slice A1 cmps.length k1)) :=
        ((((Below.refl _ _).alloc (Nat.le_refl _) _).alloc (by simp) _).grown hg1.out (by simp; omega) (fun j e => by have : wr.heap.size + 1 = j := Option.some.inj e; omega)).setCell (p := ⟨wr.heap.size, 5, none⟩) (by simp) _
      have hS2 : Blk (w1.setCell ⟨wr.heap.size, 5, none⟩ (.slice A1 cmps.length k1)) wr.heap.size 30 #[.bool neg, .int .i64 kind, .int .i64 mn, .int .i64 mx, .bool strict, .slice A1 cmps.length k1] := hS1.out.set_ 5 _
      have ho2 := ho1.out.set_ (p := ⟨wr.heap.size, 5, none⟩) (hS1.out.ne_own ho1.out.1 (by decide)) (.slice A1 cmps.length k1)
      have hb0' := hb0.out.below hbl (by omega)
      have hb1' := hb1.out.below hbl (by omega)
      have hown2 := hown.out.below hbl (Nat.le_refl _)
      have hB2 := hB.out.trans (hbl.mono hB.out.size)
      have hap := hown.out.apart_new (Nat.le_refl _) ho2
      have hz2 := hbl.size
      generalize w1.setCell ⟨wr.heap.size, 5, none⟩ (.slice A1 cmps.length k1) = W2 at *
      have hpl : ps.length ≤ 1000 := by
        have := congrArg List.length hps.out
        simp at this
        omega
      clear hS1 ho1 hg1 e5 f5 hb0 hb1 hown hB hbl c0 c1 c2 c3 c4 c5 hcv
      have d0 := hS2.cell 0
      have d1 := hS2.cell 1
      have d2 := hS2.cell 2
      have d3 := hS2.cell 3
      have d4 := hS2.cell 4
      have d5 := hS2.cell 5
      have b0 := hb0'.cell 0
      have hlS := hS2.lt
      simp at d0 d1 d2 d3 d4 d5 b0
      replace hS2 := hide hS2
      replace ho2 := hide (ho2.mono (by omega : w.heap.size ≤ wr.heap.size))
      replace hb0' := hide hb0'
      replace hb1' := hide hb1'
      replace hown2 := hide hown2
      replace hB2 := hide hB2
      replace hap := hide hap
      go_wp2_with (at_builtin; refine app_sp (base := w.heap.size) (ps := ps) (x := (⟨neg, kind, mn, mx, strict, cmps⟩, .slice A1 cmps.length k1)) (g := W2.heap.size) (.tmp 25) (.tmp 27) rfl rfl rfl rfl (own_alloc hown2.out.row) (Blk.new_ rfl _ _) rfl (by omega) (by first | omega | (simp; omega)) ?_; intro v3 w3 hrow3 hg3 hat3; obtain ⟨A3, k3, hv3⟩ := own_form hrow3; subst hv3; have hB3 := hide ((hb0'.out.alloc _).grown hg3 (hb0'.out.ne_own hown2.out.row (by decide))); have q0 := hB3.out.cell 0; have qf := hB3.out.frozen 0; replace hrow3 := hide hrow3; replace hg3 := hide hg3)
      have hP3 := (hown2.out.alloc_ _).push (ho2.out.alloc_ _) hap.out hrow3.out hg3.out
      simp only [List.length_append, List.length_cons, List.length_nil, Nat.zero_add] at hP3
      refine ⟨⟨k + 1, _, ps ++ [(⟨neg, kind, mn, mx, strict, cmps⟩, .slice A1 cmps.length k1)], by omega, rfl, hB3.out.set_ 0 _, ?_, hP3.box hB3.out (by decide) (by decide) _, hide (hps2.out _), ?_⟩, by simp [intOf]; omega⟩
      · exact ((hb1'.out.alloc _).grown hg3.out (hb1'.out.ne_own hown2.out.row (by decide))).far (p := ⟨w.heap.size, 0, none⟩) (by simp) _
      · refine ((hB2.out.alloc hB2.out.size _).grown hg3.out (by simp; omega) (fun j e => (hown2.out.ownlt j e).1)).setCell (p := ⟨w.heap.size, 0, none⟩) (by simp) _
    · obtain rfl : k = p.length := by omega
      rw [List.take_of_length_le (Nat.le_refl _)] at hps
      have b0 := hb0.cell 0
      have b1 := hb0.cell 1
      have r0 := hb1.cell 0
      have r1 := hb1.cell 1
      have rf0 := hb1.frozen 0
      have rf1 := hb1.frozen 1
      simp at b0 b1 r0 r1
      have hlb := hb1.lt
      replace hb0 := hide hb0
      replace hb1 := hide hb1
      replace hown := hide hown
      replace hB := hide hB
      clear h4 h5
      go_wp2
      have hR := (hb1.out.set_ 0 (.slice As ps.length ks)).set_ 1 (.int .i64 win)
      have hbl : Below w.heap.size w ((wr.setCell ⟨w.heap.size + 1, 0, none⟩ (.slice As ps.length ks)).setCell ⟨w.heap.size + 1, 1, none⟩ (.int .i64 win)) := (hB.out.setCell (p := ⟨w.heap.size + 1, 0, none⟩) (by simp) _).setCell (p := ⟨w.heap.size + 1, 1, none⟩) (by simp) _
      have hP := (hown.out.box hb1.out (by decide) (by decide) (j := 0) (.slice As ps.length ks)).box (hb1.out.set_ 0 (.slice As ps.length ks)) (by decide) (by decide) (j := 1) (.int .i64 win)
      generalize (wr.setCell ⟨w.heap.size + 1, 0, none⟩ (.slice As ps.length ks)).setCell ⟨w.heap.size + 1, 1, none⟩ (.int .i64 win) = V at *
      have q0 := hR.cell 0
      have q1 := hR.cell 1
      simp at q0 q1
      exact bodyPost_ret (v := ptV (.slice As ps.length ks) win) (by simp [results, Try.f15, go_sem, q0, q1]) rfl ⟨⟨_, ps, rfl, hP, hps.out⟩, hbl⟩
end Go.Proofs.Ytidddeobachjgaa
