/- The names that a step asks, as the reference puts them together: the walk of the reference's Asked. -/
import Derived.Test.YtidddeobachjgaaRaA
namespace Go.Proofs.Ytidddeobachjgaa
open Go.RowKit
attribute [local go_sem] relVal relEff dTwo grown_cell grown_frozen

def insAll (a l : List Int) : List Int := l.foldl (fun l n => ins n l) a
theorem asked_snoc {cs : List Cm} {k : Nat} {c : Cm} (h : cs[k]? = some c) : asked (cs.take (k + 1)) = insAll (asked (cs.take k)) (c.l.names ++ c.r.names) := by
  simp only [asked, allNames, List.take_add_one, h, Option.toList_some, List.flatMap_append, List.flatMap_cons, List.flatMap_nil, List.append_nil, List.foldl_append, insAll, Cm.names]
theorem insAll_snoc {a l : List Int} {k : Nat} {x : Int} (h : l[k]? = some x) : insAll a (l.take (k + 1)) = ins x (insAll a (l.take k)) := by
  simp [insAll, List.take_add_one, h, List.foldl_append]
theorem insAll_rise {a l : List Int} (h : Rise a) : Rise (insAll a l) := (fold_ins l a h).1
theorem ins_len (n : Int) (l : List Int) : (ins n l).length ≤ l.length + 1 := by
  induction l with
  | nil => simp [ins]
  | cons x l ih =>
    simp only [ins]
    split
    · simp
    · split
      · simp
      · simp only [List.length_cons]; omega
theorem insAll_len (l a : List Int) : (insAll a l).length ≤ a.length + l.length := by
  induction l generalizing a with
  | nil => simp [insAll]
  | cons x l ih =>
    have h1 := ih (ins x a)
    have h2 := ins_len x a
    simp only [insAll, List.foldl_cons, List.length_cons] at *
    omega
theorem tnames_len (t : Tm) : t.names.length ≤ 2 := by unfold Tm.names; split <;> (try split) <;> simp
theorem asked_len (cs : List Cm) (k : Nat) : (asked (cs.take k)).length ≤ 4 * k := by
  have key : ∀ l : List Cm, (allNames l).length ≤ 4 * l.length := by
    intro l
    induction l with
    | nil => simp [allNames]
    | cons c l ih =>
      have h1 := tnames_len c.l
      have h2 := tnames_len c.r
      simp only [allNames, List.flatMap_cons, Cm.names, List.length_append, List.length_cons] at ih ⊢
      omega
  have h1 := key (cs.take k)
  have h2 : (cs.take k).length ≤ k := List.length_take_le _ _
  have h3 := insAll_len (allNames (cs.take k)) []
  have h4 : insAll [] (allNames (cs.take k)) = asked (cs.take k) := rfl
  rw [h4] at h3
  simp at h3
  omega

set_option maxRecDepth 100000 in
set_option maxHeartbeats 4000000 in
theorem rasked_any (s : Sp) (cv : Value) (w : World) (h : RdC w w.heap.size cv s.cmps) (hlen : s.cmps.length ≤ 1000) :
    Calls Try.prog 103 #[spV s cv] w fun e w' => (∃ v, e = .returned v ∧ OwI w' w.heap.size v (asked s.cmps)) ∧ Below w.heap.size w w' := by
  obtain ⟨neg, kind, mn, mx, strict, cmps⟩ := s
  simp only at h hlen
  obtain ⟨A, cap, b, off, rfl, h2, h3, h4, h5⟩ := h
  go_enter Try.func103, Try.ntmps103
  go_wp2
  go_loopw [3, 4] (fun o i wr => ∃ k : Nat, k ≤ cmps.length ∧ i = .int .i64 k ∧ OwI wr w.heap.size o (asked (cmps.take k)) ∧ Below w.heap.size w wr ∧ wr.cell? ⟨w.heap.size, 5, none⟩ = some (.slice A cmps.length cap) ∧ w.heap.size < wr.heap.size) (fun _ i _ => cmps.length - (intOf i).toNat)
  case atStart => exact ⟨0, by omega, rfl, OwI.nil _ _, (Below.refl _ _).alloc (Nat.le_refl _) _, by simp, by simp⟩
  case round =>
    obtain ⟨k, hk, rfl, hown, hB, hbx, hz⟩ := hrel
    by_cases hlt : k < cmps.length
    · obtain ⟨rfl, hb⟩ := h4 (by omega)
      have hx := List.getElem?_eq_getElem hlt
      obtain ⟨vs, ⟨rfl, -⟩, hat⟩ := h5 k cmps[k] hx
      obtain ⟨c0, c1, c2, c3, c4, c5, c6, c7, c8⟩ := (hat.below hB hb).c9
      have hsn := hide (asked_snoc hx)
      have hal := asked_len cmps k
      have hri : Hid (Rise (asked (cmps.take k))) := hide (asked_rise _)
      have hb2 : b < wr.heap.size := by omega
      clear hat h5 hx h4
      generalize cmps[k] = c at *
      generalize asked (cmps.take k) = L at *
      obtain ⟨op, l, r⟩ := c
      simp only at c0 c1 c2 c3 c4 c5 c6 c7 c8 hsn
      have hnl := tnames_len l
      have hnr := tnames_len r
      go_upto_region 5 with (fail)
      refine wp_region_two l.names r.names 6 13 14 (by kernel_rfl) (by kernel_rfl) ?_
      repeat (refine wpRel_one rfl (fun K hK => ?_); go_simp; refine hK _ _ ?_; clear hK K)
      refine wpRel_eff (R := (FullV l.names, fun _ v w => OwF w wr.heap.size v l.names)) rfl (fun K hK => ?_)
      go_simp
      refine ⟨fun n => calls_two l (Nat.le_refl _), fun v1 hv1 => ?_⟩
      refine hK _ _ ?_
      clear hK K
      refine wpRel_one rfl (fun K hK => ?_)
      go_simp
      refine hK _ _ ?_
      clear hK K
      repeat (refine wpRel_one rfl (fun K hK => ?_); go_simp; refine hK _ _ ?_; clear hK K)
      refine wpRel_eff (R := (FullV r.names, fun _ v w => OwF w wr.heap.size v r.names)) rfl (fun K hK => ?_)
      go_simp
      refine ⟨fun n => calls_two r (Nat.le_refl _), fun v2 hv2 => ?_⟩
      refine hK _ _ ?_
      clear hK K
      refine wpRel_app_two (v1 := v1) (v2 := v2) (.tmp 20) (.tmp 27) (Nat.le_refl _) rfl rfl rfl rfl (by omega) (by decide) (by decide) (List.Mem.tail _ (List.Mem.head _)) (List.Mem.head _) (fun v3 => ?_)
      refine wpRel_one rfl (fun K hK => ?_)
      go_simp
      refine hK _ _ ?_
      clear hK K
      refine wpRel_nil ?_
      rintro w7 ⟨n7, rfl⟩ hΓ
      have hall : OwI (grown wr.heap.size wr n7) wr.heap.size v3 (l.names ++ r.names) := hΓ _ (List.mem_cons_self ..)
      have hB7 := grown_below wr.heap.size wr n7
      have hz7 := grown_size wr.heap.size wr n7 (Nat.le_refl _)
      clear hΓ hv1 hv2 c0 c1 c2 c3 c4 c5 c6 c7 c8
      generalize hns : l.names ++ r.names = ns at *
      have hnl : ns.length ≤ 4 := by rw [← hns]; simp only [List.length_append]; omega
      clear hns
      have hown7 := hown.below hB7 (Nat.le_refl _)
      have hB0 := hB.trans (hB7.mono (by omega))
      have hbx7 := (hB7.cell (p := ⟨w.heap.size, 5, none⟩) hz).trans hbx
      generalize grown wr.heap.size wr n7 = V at *
      have hz8 : w.heap.size < V.heap.size := by omega
      have hrd := hall.rd
      obtain ⟨A2, k2, b2, off2, e2, g2, g3, g4, g5⟩ := hrd
      subst e2
      clear hown hB hB7 hbx hall
      go_wp2
      go_loopw [3, 6] (fun o j wq => ∃ m : Nat, m ≤ ns.length ∧ j = .int .i64 m ∧ OwI wq w.heap.size o (insAll L (ns.take m)) ∧ Below V.heap.size V wq) (fun _ j _ => ns.length - (intOf j).toNat)
      case atStart => exact ⟨0, by omega, rfl, by simpa [insAll] using hown7, Below.refl _ _⟩
      case round =>
        obtain ⟨m, hm, rfl, hown9, hB9⟩ := hrel
        by_cases hlm : m < ns.length
        · obtain ⟨rfl, hb3⟩ := g4 (by omega)
          have hy := List.getElem?_eq_getElem hlm
          obtain ⟨us, rfl, hat2⟩ := g5 m ns[m] hy
          have d0 := (hat2.below hB9 hb3).c1
          simp only [Nat.mul_one] at d0
          have hs2 := hide (insAll_snoc (a := L) hy)
          have hin := insAll_len (ns.take m) L
          have htl : (ns.take m).length ≤ m := List.length_take_le _ _
          have hr2 := insAll_rise (l := ns.take m) hri.out
          clear hat2 g5 hy
          have hcall := hide (fun n w1 (hb : Below wr.heap.size wr w1) => with_any (insAll L (ns.take m)) n _ w.heap.size w1 (hown9.below hb (Nat.le_refl _)) hr2 (by omega) (Nat.le_trans (Nat.le_of_lt hz8) (Nat.le_trans hB9.size hb.size)))
          have hz9 := hB9.size
          clear hr2
          generalize insAll L (ns.take m) = L2 at *
          generalize ns[m] = x at *
          go_wp2_with (go_at_call 105; (with_reducible refine (hcall.out _ _ (Below.refl _ _)).mono ?_); rintro e w1 ⟨⟨v4, rfl, ho4⟩, hB4⟩)
          exact ⟨⟨m + 1, by omega, rfl, by rw [hs2.out]; exact ho4, hB9.trans (hB4.mono hz9)⟩, by simp [intOf]; omega⟩
        · obtain rfl : m = ns.length := by omega
          rw [List.take_of_length_le (Nat.le_refl _)] at hown9
          clear g4 g5
          go_wp2
          refine ⟨⟨k + 1, by omega, rfl, by rw [hsn.out]; exact hown9, hB0.trans (hB9.mono (Nat.le_of_lt hz8)), ?_, by have := hB9.size; omega⟩, by simp [intOf]; omega⟩
          exact (hB9.cell (p := ⟨w.heap.size, 5, none⟩) hz8).trans hbx7
    · obtain rfl : k = cmps.length := by omega
      rw [List.take_of_length_le (Nat.le_refl _)] at hown
      clear h4 h5
      go_wp2
      go_ret
      exact ⟨⟨_, rfl, hown⟩, hB⟩
end Go.Proofs.Ytidddeobachjgaa
