/- Patterns told in memory of their own: the walk of tree.Own. -/
import Derived.Test.YtidddeobachjgaaTrP
import Derived.Test.YtidddeobachjgaaLibW
import Derived.Test.YtidddeobachjgaaOw
import Derived.Test.YtidddeobachjgaaTrE
import Derived.Deep.Cut
namespace Go.Proofs.Ytidddeobachjgaa
open Go.RowKit
attribute [local go_sem] relVal relEff dW

/-- Of a row of steps the first k have comparisons of the call's own; those of the others lie below block B. -/
structure OwK (w : World) (base B : Nat) (v : Value) (ps : List (Sp × Value)) (k : Nat) : Prop where
  row : OwR w base v ps
  done : ∀ x ∈ ps.take k, OwC w base x.2 x.1.cmps
  rest : ∀ x ∈ ps.drop k, RdC w B x.2 x.1.cmps
  apart : Apart (ps.take k)
theorem own_same {w w' : World} {base size n : Nat} {e : TypeId} {v : Value} {xs : List Value} (h : w.ownsRow base e size v n xs) (hs : ∀ g, v.ownBlock = some g → w'.heap[g]? = w.heap[g]?) : w'.ownsRow base e size v n xs := by
  refine ⟨h.1, ?_⟩
  rcases h.2 with h2 | ⟨g, cap, cur, hv, hg, hh, r⟩
  · exact .inl h2
  · exact .inr ⟨g, cap, cur, hv, hg, (hs g (by rw [hv]; rfl)).trans hh, r⟩
theorem take_set_snoc {α : Type} {l : List α} {k : Nat} {x y : α} (h : l[k]? = some x) : (l.set k y).take (k + 1) = l.take k ++ [y] := by
  have hk := (List.getElem?_eq_some_iff.1 h).1
  rw [List.take_add_one, List.take_set_of_le (Nat.le_refl _), List.getElem?_set_self hk]
  rfl
theorem set_same {α : Type} {l : List α} {k : Nat} {x : α} (h : l[k]? = some x) : l.set k x = l := by
  obtain ⟨hk, rfl⟩ := List.getElem?_eq_some_iff.1 h
  exact List.set_getElem_self hk
theorem drop_set_snoc {α : Type} {l : List α} {k : Nat} {y : α} : (l.set k y).drop (k + 1) = l.drop (k + 1) := by
  rw [List.drop_set_of_lt (by omega)]
/-- One step's comparisons more. -/
theorem OwK.next {V w7 : World} {base B g cap k : Nat} {qs : List (Sp × Value)} {s : Sp} {u u' : Value} (h : OwK V base B (.slice (some ⟨g, 0, none⟩) qs.length cap) qs k) (hx : qs[k]? = some (s, u)) (hBb : B ≤ base) (hbV : base ≤ V.heap.size)
    (hC : V.grownBy w7 (some g)) (hu : OwC w7 V.heap.size u' s.cmps) (hg : w7.heap[g]? = (V.setCell ⟨g, k * 6 + 5, none⟩ u').heap[g]?) :
    OwK w7 base B (.slice (some ⟨g, 0, none⟩) qs.length cap) (qs.set k (s, u')) (k + 1) := by
  have hrow := h.row
  have hgb : base ≤ g ∧ g < V.heap.size := World.ownsRow.lt hrow g rfl
  have hbel : Below B V w7 := ⟨hC.os, hC.tape, hC.output, hC.size, fun j hj => hC.block j (by omega) (fun e => by have := Option.some.inj e; omega)⟩
  refine ⟨?_, fun x hx' => ?_, fun x hx' => ?_, ?_⟩
  · have hst := (World.ownsRow.stored hrow (k * 6 + 5) u').1
    rw [flat_set sp_len hx (by omega) (y := (s, u')) (by rfl)] at hst
    have := own_same hst (w' := w7) (fun g' e => by have : g = g' := Option.some.inj e; subst this; exact hg)
    simpa [OwR] using this
  · rw [take_set_snoc hx] at hx'
    rcases List.mem_append.1 hx' with hm | hm
    · exact (h.done x hm).kept hC (own_ne (h.done x hm).1 hrow (by decide))
    · rw [List.mem_singleton.1 hm]
      exact hu.mono hbV
  · rw [drop_set_snoc] at hx'
    have hm : x ∈ qs.drop k := by
      rw [← List.drop_drop] at hx'
      exact List.mem_of_mem_drop hx'
    exact (h.rest x hm).below hbel (Nat.le_refl _)
  · rw [take_set_snoc hx]
    refine List.pairwise_append.2 ⟨h.apart, List.pairwise_singleton _ _, fun x hxm y hy => ?_⟩
    rw [List.mem_singleton.1 hy]
    cases hb : x.2.ownBlock with
    | none => exact .inl rfl
    | some j =>
      right
      intro e
      have h1 := World.ownsRow.lt (h.done x hxm).1 j hb
      have h2 := World.ownsRow.lt hu.1 j e.symm
      omega
theorem OwR.at {w : World} {base : Nat} {v : Value} {ps : List (Sp × Value)} (h : OwR w base v ps) {i : Nat} {x : Sp × Value} (hx : ps[i]? = some x) :
    ∃ g cap cur, v = .slice (some ⟨g, 0, none⟩) ps.length cap ∧ base ≤ g ∧ g < w.heap.size ∧ At w g (i * 6) (spc x) ∧ w.heap[g]? = some (.cells cur 30 (0, 0)) ∧ i * 6 + 5 < cur.size ∧ ps.length ≤ cap := by
  have hi := (List.getElem?_eq_some_iff.1 hx).1
  rcases h.2 with ⟨h2, h3⟩ | ⟨g, cap, cur, hv, hg, hh, hn, hm, hcs, htk⟩
  · omega
  · subst hv
    refine ⟨g, cap, cur, rfl, hg, (Array.getElem?_eq_some_iff.1 hh).1, fun j u hu => ?_, hh, by rw [hcs]; omega, hn⟩
    have hj : j < 6 := by
      have := (List.getElem?_eq_some_iff.1 hu).1
      rwa [sp_len] at this
    have hlt : i * 6 + j < ps.length * 6 := by omega
    have := h.cellAt _ hlt
    rw [flat_get sp_len hx hj] at this
    rw [this, hu]
theorem blk_cell {w : World} {g : Nat} {t : TypeId} {cur : Array Value} (h : w.heap[g]? = some (.cells cur t (0, 0))) (i : Nat) (hi : i < cur.size) : (∃ u, w.cell? ⟨g, i, none⟩ = some u) ∧ w.frozen? ⟨g, i, none⟩ = false := by
  have hb : Blk w g t cur := h
  exact ⟨⟨cur[i], by rw [hb.cell]; exact Array.getElem?_eq_getElem hi⟩, hb.frozen i⟩

theorem calls_W {P : Program} {f : FuncId} {args : Array Value} {G g k : Nat} {W x : World} {cs : List Cm} (hG : G = W.heap.size) (hg : g < G) (h : ∀ w1, CW G g k W cs w1 → Calls P f args w1 fun e w' => (∃ v, e = .returned v ∧ OwC w' w1.heap.size v cs) ∧ Below w1.heap.size w1 w') :
    Calls P f args (grownW G g k W cs x) fun e w'' => ∃ v, e = .returned v ∧ (∃ n, w'' = grownW G g k W cs n) ∧ (CW G g k W cs (grownW G g k W cs x) ∧ EW G g k cs (grownW G g k W cs x) w'') ∧ SlcV cs.length v ∧ OwC w'' G v cs := by
  have hC : CW G g k W cs (grownW G g k W cs x) := grownW_is (Nat.le_of_eq hG)
  refine (h _ hC).mono ?_
  rintro e w'' ⟨⟨v, rfl, ho⟩, hb⟩
  have hlt : g < (grownW G g k W cs x).heap.size := Nat.lt_of_lt_of_le hg hC.2.1
  exact ⟨v, rfl, ⟨w'', (grownW_of (hC.below hb hlt)).symm⟩, ⟨hC, .inl ⟨hb, hlt⟩⟩, own_form ho.1, ho.mono hC.2.1⟩
theorem CW.fld {G g k : Nat} {W w : World} {cs : List Cm} (h : CW G g k W cs w) {cur : Array Value} {t : TypeId} (hc : W.heap[g]? = some (.cells cur t (0, 0))) (hk : k < cur.size) : (∃ u, w.cell? ⟨g, k, none⟩ = some u) ∧ w.frozen? ⟨g, k, none⟩ = false := by
  rcases h.2.2 with e | ⟨u, -, e⟩
  · exact blk_cell (e.trans hc) k hk
  · refine blk_cell (cur := cur.setIfInBounds k u) (t := t) ?_ k (by simpa using hk)
    rw [e]
    simp [World.setCell, Array.getElem?_modify, hc]

set_option maxRecDepth 100000 in
set_option maxHeartbeats 4000000 in
theorem own_any (p : List Sp) (win : Int) (v : Value) (w : World) (h : RdS w w.heap.size v p) (hlen : p.length ≤ 1000) (hcl : ∀ s ∈ p, s.cmps.length ≤ 1000) :
    Calls Try.prog 24 #[ptV v win] w fun e w' => (∃ sv ps, e = .returned (ptV sv win) ∧ OwP w' w.heap.size sv ps ∧ ps.map (·.1) = p) ∧ Below w.heap.size w w' := by
  have hcs := hide fun w1 (hb : Below w.heap.size w w1) => clone_step p v w1 w.heap.size (h.below hb (Nat.le_refl _)) hb.size (by omega)
  obtain ⟨A, cap, hv⟩ := h.len
  subst hv
  replace hcl := hide hcl
  replace h := hide h
  go_enter Try.func24, Try.ntmps24
  go_wp2_with (go_at_call 52; (with_reducible refine (hcs.out _ (((Below.refl _ _).alloc (Nat.le_refl _) _).alloc (by simp) _)).mono ?_); rintro e w1 ⟨⟨v1, ps, rfl, hrow, hps, hrd⟩, hB1⟩; obtain ⟨A1, k1, hv1⟩ := own_form hrow; subst hv1; have hbk := hide (((Blk.new_ (w := w) rfl 24 #[.slice A p.length cap, .int .i64 win]).alloc (.cells #[.slice none 0 0, .int .i64 0] 24)).below hB1 (by simp; omega)); have hbk2 := hide ((Blk.new_ (w := w.alloc (.cells #[.slice A p.length cap, .int .i64 win] 24)) (by simp : w.heap.size + 1 = _) 24 #[.slice none 0 0, .int .i64 0]).below hB1 (by simp)); have d0 := hbk.out.cell 0; have f0 := hbk.out.frozen 0)
  have hne0 := hide (hbk.out.ne_own hrow (by decide))
  have hl1 : ps.length = p.length := by rw [← hps]; simp
  have hX : Below w.heap.size w w1 := (((Below.refl w.heap.size w).alloc (Nat.le_refl _) (.cells #[.slice A p.length cap, .int .i64 win] 24)).alloc (by simp) (.cells #[.slice none 0 0, .int .i64 0] 24)).trans (hB1.mono (by simp; omega))
  have hz1 : w.heap.size + 2 ≤ w1.heap.size := by have := hB1.size; simp at this; omega
  have hz2 : ((w.alloc (.cells #[.slice A p.length cap, .int .i64 win] 24)).alloc (.cells #[.slice none 0 0, .int .i64 0] 24)).heap.size = w.heap.size + 2 := by simp
  rw [hz2] at hrow
  have hbV : Blk (w1.setCell ⟨w.heap.size, 0, none⟩ (.slice A1 ps.length k1)) w.heap.size 24 #[.slice A1 ps.length k1, .int .i64 win] := hbk.out.set_ 0 _
  have hb2V : Blk (w1.setCell ⟨w.heap.size, 0, none⟩ (.slice A1 ps.length k1)) (w.heap.size + 1) 24 #[.slice none 0 0, .int .i64 0] := hbk2.out.far (p := ⟨w.heap.size, 0, none⟩) (by simp) _
  have hrowV : OwR (w1.setCell ⟨w.heap.size, 0, none⟩ (.slice A1 ps.length k1)) (w.heap.size + 2) (.slice A1 ps.length k1) ps := own_set hrow hne0.out _
  have hXV : Below w.heap.size w (w1.setCell ⟨w.heap.size, 0, none⟩ (.slice A1 ps.length k1)) := hX.setCell (p := ⟨w.heap.size, 0, none⟩) (by simp) _
  have hrdV : ∀ x ∈ ps, RdC (w1.setCell ⟨w.heap.size, 0, none⟩ (.slice A1 ps.length k1)) w.heap.size x.2 x.1.cmps := fun x hx =>
    (hrd x hx).below ((hB1.mono (by simp; omega)).setCell (p := ⟨w.heap.size, 0, none⟩) (by simp) _) (Nat.le_refl _)
  have hzV : w.heap.size + 2 ≤ (w1.setCell ⟨w.heap.size, 0, none⟩ (.slice A1 ps.length k1)).heap.size := by simpa [World.setCell] using hz1
  generalize w1.setCell ⟨w.heap.size, 0, none⟩ (.slice A1 ps.length k1) = V at *
  have hK0 : OwK V (w.heap.size + 2) w.heap.size (.slice A1 ps.length k1) ps 0 := ⟨hrowV, by simp, by simpa using hrdV, List.Pairwise.nil⟩
  clear hrow hrd hbk hbk2 hne0 hX hB1 d0 f0 hcs hz1 hz2 hrowV hrdV
  rw [hl1] at *
  clear hl1
  replace hps := hide hps
  go_loopw [12] (fun i wr => ∃ (k : Nat) (qs : List (Sp × Value)), k ≤ p.length ∧ i = .int .i64 k ∧ OwK wr (w.heap.size + 2) w.heap.size (.slice A1 p.length k1) qs k ∧ Hid (qs.map (·.1) = p) ∧ Blk wr w.heap.size 24 #[.slice A1 p.length k1, .int .i64 win] ∧
    Blk wr (w.heap.size + 1) 24 #[.slice none 0 0, .int .i64 0] ∧ Below w.heap.size w wr ∧ w.heap.size + 2 ≤ wr.heap.size) (fun i _ => p.length - (intOf i).toNat)
  case atStart => exact ⟨0, ps, by omega, rfl, hK0, hps, hbV, hb2V, hXV, hzV⟩
  case round =>
    clear hK0 hbV hb2V hXV hzV
    obtain ⟨k, qs, hk, rfl, hK, hqs, hb0, hb1, hB, hz⟩ := hrel
    have hql : qs.length = p.length := by rw [← hqs.out]; simp
    by_cases hlt : k < p.length
    · have hx := List.getElem?_eq_getElem (show k < qs.length by omega)
      obtain ⟨g, cap', cur, e, hg1, hg2, hat, hgb, hsz, hcap⟩ := OwR.at hK.row hx
      rw [hql] at e hcap
      injection e with e1 e2 e3
      subst e1 e3
      have hs : p[k]? = some qs[k].1 := by
        have h1 := congrArg (fun l => l[k]?) hqs.out
        simp only [List.getElem?_map, hx] at h1
        exact h1.symm
      have hcl9 := hcl.out _ (List.mem_of_getElem? hs)
      have hrc := hK.rest qs[k] (by rw [List.mem_drop_iff_getElem]; exact ⟨0, by omega, by simp⟩)
      obtain ⟨⟨s, u⟩, hsu⟩ : ∃ y, qs[k] = y := ⟨_, rfl⟩
      rw [hsu] at hat hs hcl9 hrc hx
      simp only at hs hcl9 hrc
      clear hsu
      obtain ⟨neg, kind, mn, mx, strict, cmps⟩ := s
      simp only [spc] at hat hrc hcl9
      obtain ⟨Ac, kc, hcve⟩ : ∃ A cap, u = .slice A cmps.length cap := by
        obtain ⟨A, cap, b, off, e, -⟩ := hrc
        exact ⟨A, cap, e⟩
      subst hcve
      obtain ⟨c0, c1, c2, c3, c4, c5⟩ := hat.c6
      have e0 := hb0.cell 0
      have e1 := hb0.cell 1
      simp at e0 e1
      replace hK := hide hK
      replace hb0 := hide hb0
      replace hb1 := hide hb1
      replace hB := hide hB
      replace hs := hide hs
      replace hx := hide hx
      replace hgb := hide hgb
      replace hrc := hide hrc
      replace hql := hide hql
      clear hat
      go_upto_region 5 with (fail)
      generalize hV4 : wr.alloc (.cells #[_, _, _, _, _, .slice Ac cmps.length kc] 30) = V4
      have hB4 : Below wr.heap.size wr V4 := by rw [← hV4]; exact (Below.refl _ _).alloc (Nat.le_refl _) _
      have z4 : V4.heap.size = wr.heap.size + 1 := by rw [← hV4]; simp
      have x5 : V4.cell? ⟨wr.heap.size, 5, none⟩ = some (.slice Ac cmps.length kc) := by rw [← hV4]; simp
      clear hV4 c0 c1 c2 c3 c4
      have x0 : V4.cell? ⟨w.heap.size, 0, none⟩ = some (.slice (some ⟨g, 0, none⟩) p.length k1) := (hB4.cell (p := ⟨w.heap.size, 0, none⟩) (by show w.heap.size < wr.heap.size; omega)).trans e0
      have hgb4 := hide ((hB4.block g hg2).trans hgb.out)
      have hrc4 := hide (hrc.out.below (hB4.mono (by omega)) (Nat.le_refl _))
      have hK4 : Hid (OwK V4 (w.heap.size + 2) w.heap.size (.slice (some ⟨g, 0, none⟩) p.length k1) qs k) := hide ⟨own_below hK.out.row hB4 (Nat.le_refl _), fun x hx => (hK.out.done x hx).below hB4 (Nat.le_refl _), fun x hx => (hK.out.rest x hx).below (hB4.mono (by omega)) (Nat.le_refl _), hK.out.apart⟩
      have nb0 : w.heap.size < V4.heap.size := by omega
      have nb1 : wr.heap.size < V4.heap.size := by omega
      have ng0 : w.heap.size ≠ g := by omega
      have ng1 : wr.heap.size ≠ g := by omega
      have hg4 : g < V4.heap.size := by omega
      clear e0 e1 c5
      replace z4 := hide z4
      have gq := hide hgb4.out
      have gc := hide fun (o : Nat) n (b : Nat) (hb : b < V4.heap.size) (hne : b ≠ g) => grownW_cell (G := V4.heap.size) (g := g) (k := k * 6 + 5) (W := V4) (x := n) (cs := cmps) rfl o hb hne
      have g0 := fun n => (gc.out 0 n _ nb0 ng0).trans x0
      have g1 := fun n => (gc.out 5 n _ nb1 ng1).trans x5
      refine wp_region_cmps V4.heap.size g (k * 6 + 5) cmps 5 8 rfl hg4 (by kernel_rfl) (by kernel_rfl) ?_
      repeat (refine wpRel_one rfl (fun K hK => ?_); go_simp; refine hK _ _ ?_; clear hK K)
      refine wpRel_eff (R := (SlcV cmps.length, fun _ v w => OwC w V4.heap.size v cmps)) rfl (fun K hK => ?_)
      go_simp
      refine ⟨fun n => calls_W rfl hg4 (fun w1 hC => clone_cmp cmps _ w1 (hrc4.out.below ⟨hC.1.os, hC.1.tape, hC.1.output, hC.1.size, fun j hj => hC.1.block j (by omega) (fun e => by have := Option.some.inj e; omega)⟩ (Nat.le_trans (by omega) hC.2.1)) (by omega)), fun v1 hv1 => ?_⟩
      refine hK _ _ ?_
      clear hK K
      obtain ⟨Av, kv, rfl⟩ := hv1
      repeat (refine wpRel_one rfl (fun K hK => ?_); go_simp; refine hK _ _ ?_; clear hK K)
      refine wpRel_eff (R := (fun v => v = undef, fun _ _ w => Stored V4.heap.size g (k * 6 + 5) V4 cmps w)) rfl (fun K hK => ?_)
      go_simp
      refine ⟨fun n ho => ?_, ?_⟩
      · have hC : CW V4.heap.size g (k * 6 + 5) V4 cmps (grownW V4.heap.size g (k * 6 + 5) V4 cmps n) := grownW_is (Nat.le_refl _)
        obtain ⟨⟨y, hy⟩, hfz⟩ := hC.fld hgb4.out hsz
        simp only [hy, hfz, Result.andThen_ok, Bool.false_eq_true, if_false]
        exact ⟨⟨_, (grownW_of (hC.stored hg4 ho)).symm⟩, ⟨hC, .inr ⟨_, ho, ⟨_, ho.set_ (p := ⟨g, k * 6 + 5, none⟩) (fun e => by have := World.ownsRow.lt ho.1 g e.symm; omega) _, rfl⟩, rfl⟩⟩, hC.set hg4 ho⟩
      refine hK _ _ ?_
      clear hK K
      refine wpRel_nil ?_
      rintro w7 ⟨n7, rfl⟩ hΓ
      have hst : Stored V4.heap.size g (k * 6 + 5) V4 cmps (grownW V4.heap.size g (k * 6 + 5) V4 cmps n7) := hΓ _ (List.mem_cons_self ..)
      have hC : CW V4.heap.size g (k * 6 + 5) V4 cmps (grownW V4.heap.size g (k * 6 + 5) V4 cmps n7) := grownW_is (Nat.le_refl _)
      clear hΓ g0 g1 x0 x5
      generalize grownW V4.heap.size g (k * 6 + 5) V4 cmps n7 = w7 at *
      obtain ⟨u7, hu7, hg7⟩ := hst
      have hql9 := hql.out
      have hKn : OwK w7 (w.heap.size + 2) w.heap.size (.slice (some ⟨g, 0, none⟩) p.length k1) (qs.set k (⟨neg, kind, mn, mx, strict, cmps⟩, u7)) (k + 1) := by
        have h4 := hK4.out
        rw [← hql9] at h4 ⊢
        exact h4.next hx.out (by omega) (by have := z4.out; omega) hC.1 hu7 hg7
      have hmap : Hid ((qs.set k (⟨neg, kind, mn, mx, strict, cmps⟩, u7)).map (·.1) = p) := hide (by
        have h1 := hs.out
        rw [List.map_set, hqs.out]; exact set_same h1)
      have hb0' : Blk w7 w.heap.size 24 #[.slice (some ⟨g, 0, none⟩) p.length k1, .int .i64 win] := (hb0.out.below hB4 (by omega)).grown hC.1 (some_ne' ng0)
      have hb1' : Blk w7 (w.heap.size + 1) 24 #[.slice none 0 0, .int .i64 0] := (hb1.out.below hB4 (by omega)).grown hC.1 (some_ne' (by omega))
      have hB7 : Below w.heap.size w w7 := (hB.out.trans (hB4.mono (by omega))).trans ⟨hC.1.os, hC.1.tape, hC.1.output, hC.1.size, fun j hj => hC.1.block j (by omega) (fun e => by have := Option.some.inj e; omega)⟩
      have hz7 := hC.2.1
      go_wp2
      exact ⟨⟨k + 1, _, by omega, rfl, hKn, hmap, hb0', hb1', hB7, by omega⟩, by simp [intOf]; omega⟩
    · obtain rfl : k = p.length := by omega
      have hP : OwP wr (w.heap.size + 2) (.slice A1 p.length k1) qs := by
        have h1 : qs.take p.length = qs := List.take_of_length_le (by omega)
        exact ⟨hK.row, fun x hx => hK.done x (by rw [h1]; exact hx), by have := hK.apart; rwa [h1] at this⟩
      have b0 := hb0.cell 0
      have b1 := hb0.cell 1
      have r0 := hb1.cell 0
      have r1 := hb1.cell 1
      have rf0 := hb1.frozen 0
      have rf1 := hb1.frozen 1
      simp at b0 b1 r0 r1
      have hlb := hb1.lt
      replace hb0 := hide hb0
      replace hb1 := hide hb1
      replace hP := hide hP
      replace hB := hide hB
      clear hK hql
      go_wp2
      have hR := (hb1.out.set_ 0 (.slice A1 p.length k1)).set_ 1 (.int .i64 win)
      have hbl : Below w.heap.size w ((wr.setCell ⟨w.heap.size + 1, 0, none⟩ (.slice A1 p.length k1)).setCell ⟨w.heap.size + 1, 1, none⟩ (.int .i64 win)) := (hB.out.setCell (p := ⟨w.heap.size + 1, 0, none⟩) (by simp) _).setCell (p := ⟨w.heap.size + 1, 1, none⟩) (by simp) _
      have hPP := (hP.out.box hb1.out (by decide) (by decide) (j := 0) (.slice A1 p.length k1)).box (hb1.out.set_ 0 (.slice A1 p.length k1)) (by decide) (by decide) (j := 1) (.int .i64 win)
      generalize (wr.setCell ⟨w.heap.size + 1, 0, none⟩ (.slice A1 p.length k1)).setCell ⟨w.heap.size + 1, 1, none⟩ (.int .i64 win) = V at *
      have q0 := hR.cell 0
      have q1 := hR.cell 1
      simp at q0 q1
      exact bodyPost_ret (v := ptV (.slice A1 p.length k1) win) (by simp [results, Try.f24, go_sem, q0, q1]) rfl ⟨⟨_, qs, rfl, hPP.mono (by omega), hqs.out⟩, hbl⟩
end Go.Proofs.Ytidddeobachjgaa
