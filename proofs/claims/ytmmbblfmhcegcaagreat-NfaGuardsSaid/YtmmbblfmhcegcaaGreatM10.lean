/- Several texts of one proof: A region that draws its order, in a round of a loop over a function. | Sizes, what is too great, first places: the walks. | Which patterns may be written: the walks. | Which patterns may be written: the walks of tree.Right and of the reference's Right. | The rules of the layer of checks, one by one: the walks. | The names of a term: the iterator over them, tree.Names. -/
import Derived.Test.YtmmbblfmhcegcaaGreatM05
import Derived.Test.YtmmbblfmhcegcaaGreatM07
import Derived.OrdersIn
import Derived.TacticsIn
import Derived.Test.YtmmbblfmhcegcaaGreatM04
import Derived.Test.YtmmbblfmhcegcaaGreatM01
import Derived.Test.YtmmbblfmhcegcaaGreatM06

namespace Go.Proofs.YtmmbblfmhcegcaaGreat
open Go.RowKit Go Go.Shelf

section
variable {P : Program} {ops : Array Oper} {Q : Exit → Act → World → Prop} {n l : Nat}
theorem rows_round {row : String} {args : Array Value} {w : World} {R : Value → World → Prop} (h : Rows P row args w R) : RowsIn (Fence.wide.inRound l) n P row args w R := fun c cs _ => by
  obtain ⟨v, w', r, s⟩ := h c cs
  exact ⟨v, w', r, stepsIn_wide.2 s⟩
theorem oper_round {o : Oper} {a : Act} {w : World} {K : Act → World → Prop} (hd : ∀ c, o.op ≠ .defer c) (h : o.wp P a w K Q) : o.wpIn (Fence.wide.inRound l) n P a w K Q := by
  unfold Oper.wp at h
  unfold Oper.wpIn
  refine ⟨fun _ _ => trivial, ?_⟩
  rw [show (Fence.wide.inRound l).round = some l from rfl, Oper.semAt_some l _ o hd]
  generalize (execOp a.eval o).run P w = r at h ⊢
  cases r with
  | ok x w' =>
    cases x <;> simp only [Oper.upon] at h
    all_goals first | exact ⟨fun h => (by cases h), callsIn_wide.2 h⟩ | exact ⟨fun h => (by cases h), rows_round h⟩ | exact h.elim | exact h
  | halt x w' => cases x <;> simp only [Oper.upon] at h <;> first | exact h | exact h.elim
def noDefer (ops : Array Oper) : Bool := ops.toList.all fun o => match o.op with
  | .defer _ => false
  | _ => true
theorem noDefer_spec (h : noDefer ops = true) {i : Nat} {o : Oper} (ho : ops[i]? = some o) : ∀ c, o.op ≠ .defer c := by
  intro c hc
  simp only [noDefer, List.all_eq_true] at h
  have hm : o ∈ ops.toList := by
    obtain ⟨hi, rfl⟩ := Array.getElem?_eq_some_iff.1 ho
    simp
  have := h o hm
  rw [hc] at this
  cases this
theorem any_round (hd : noDefer ops = true) (hQ : ¬ LetsOut Q) : ∀ (fuel : Nat) (listed : Array Bool) (a : Act) (w : World), wpAny P .any ops Q fuel listed a w → wpAnyIn (Fence.wide.inRound l) n P .any ops Q fuel listed a w := by
  intro fuel
  induction fuel with
  | zero => intro listed a w h; exact h
  | succ fuel ih =>
    intro listed a w h
    refine ⟨h.1, fun i hi => ?_⟩
    have h1 := h.2 i hi
    unfold wpOp at h1
    unfold wpOpIn
    cases ho : ops[i]? with
    | none =>
      rw [ho] at h1
      exact ih _ _ _ h1
    | some o =>
      rw [ho] at h1
      simp only at h1 ⊢
      split
      · rename_i hw
        rw [if_pos hw] at h1
        rcases h1 with h1 | ⟨-, h1⟩
        · exact Oper.wpIn_mono (fun a w h => ih _ a w h) (oper_round (noDefer_spec hd ho) h1)
        · exact absurd h1 hQ
      · rename_i hw
        rw [if_neg hw] at h1
        exact ⟨fun _ _ => trivial, ih _ _ _ h1⟩

/-- The law of the table, in a round. -/
theorem wp_region_round {id : Nat} {a : Act} {w : World} {l' : List Oper} (C : World → Prop) (L : List (Nat × Fact)) (D : List (Nat × List Nat)) (hd : C w.drew) (hdef : noDefer l'.toArray = true) (hQ : ¬ LetsOut Q)
    (hm : P.follows .mixedOrders = true) (hB : relB l'.toArray (dT D) = true) (hinh : ∀ p ∈ L, ∃ v, p.2.1 v)
    (h : wpRel P l'.toArray (fun w' => ∃ n, w' = someW C w n) (KeepT L) (pfT L) (dT D) (fun a' w' => Q .normal a' w') l' 0 (fun _ => undef) [] a) :
    (Code.region id l'.toArray true).wpIn (Fence.wide.inRound l) n P Q a w := by
  have mem : ∀ {k : Nat} {f : Fact}, L.lookup k = some f → ∃ j, (j, f) ∈ L := fun h => lookup_mem h
  have hB' := relB_spec hB
  have hrep : ∀ m, (fun j => (Array.replicate m false).getD j false) = fun _ => false := fun m => by
    funext j
    simp [Array.getElem?_replicate]
    split <;> rfl
  have hno : ∀ j, (Array.replicate l'.toArray.size false).getD j false = true → False := fun j hj => by
    rw [show (Array.replicate l'.toArray.size false).getD j false = false from congrFun (hrep l'.toArray.size) j] at hj
    cases hj
  refine wpIn_region_any hm (any_round hdef hQ _ _ _ _ ?_)
  refine wpAny_of_rel (a0 := a) (Q := fun a' w' => Q .normal a' w') (fun _ _ h => h) rfl hB' ?_ ?_ ?_ h _ _ (fun _ => undef) _ _ (by simp) ?_ ?_ ?_ ⟨w.drew, (someW_of hd).symm⟩ ?_ ?_
  · intro k R hR vs vs' v w hd hr
    obtain ⟨f, -, rfl⟩ := Option.map_eq_some_iff.1 hR
    exact hr
  · intro k R hR
    obtain ⟨f, hf, rfl⟩ := Option.map_eq_some_iff.1 hR
    obtain ⟨j, hj⟩ := mem hf
    exact hinh _ hj
  · intro k R hR vs v w w' hr _ hE
    obtain ⟨f, hf, rfl⟩ := Option.map_eq_some_iff.1 hR
    obtain ⟨j, hj⟩ := mem hf
    exact hE _ hj v hr
  · rw [hrep]
    unfold left
    rw [List.filter_eq_self.2 (by simp)]
    simp
  · intro j hj
    exact (hno j hj).elim
  · rw [hrep]
    generalize l'.toArray.size = n
    induction n with
    | zero => rfl
    | succ n ih => simpa [frameR] using ih
  · intro j hj
    exact (hno j hj).elim
  · intro j hj
    exact (hno j hj).elim

/-- The same where the region ends in one operation that waits for all others. -/
theorem wp_region_roundT {id : Nat} {a : Act} {w : World} {l' : List Oper} {ot : Oper} (hops : ops = (l' ++ [ot]).toArray) (C : World → Prop) (L : List (Nat × Fact)) (D : List (Nat × List Nat)) (hd : C w.drew) (hdef : noDefer ops = true) (hQ : ¬ LetsOut Q)
    (hm : P.follows .mixedOrders = true) (hB : relB ops (dT D) = true) (hinh : ∀ p ∈ L, ∃ v, p.2.1 v) (hs : sinkT ops l'.length = true) (hg : ot.guard = none)
    (h : wpRel P ops (fun w' => ∃ n, w' = someW C w n) (KeepT L) (pfT L) (dT D) (fun a' w' => ot.wp P a' w' (Q .normal) Q) l' 0 (fun _ => undef) [] a) :
    (Code.region id ops true).wpIn (Fence.wide.inRound l) n P Q a w := by
  have mem : ∀ {k : Nat} {f : Fact}, L.lookup k = some f → ∃ j, (j, f) ∈ L := fun h => lookup_mem h
  have hB' := relB_spec hB
  have hot : ops[l'.length]? = some ot := by rw [hops]; simp
  have hrep : ∀ m, (fun j => (Array.replicate m false).getD j false) = fun _ => false := fun m => by
    funext j
    simp [Array.getElem?_replicate]
    split <;> rfl
  have hno : ∀ j, (Array.replicate ops.size false).getD j false = true → False := fun j hj => by
    rw [show (Array.replicate ops.size false).getD j false = false from congrFun (hrep ops.size) j] at hj
    cases hj
  refine wpIn_region_any hm (any_round hdef hQ _ _ _ _ ?_)
  refine wpAny_of_relT (a0 := a) (C := fun w' => ∃ n, w' = someW C w n) (E := KeepT L) (Pf := pfT L) (D := dT D) hops hB' ?_ ?_ ?_ hs ?_ _ _ (fun _ => undef) _ _ (by simp) ?_ ?_ ?_ ?_ ⟨w.drew, (someW_of hd).symm⟩ ?_ ?_
  · intro k R hR vs vs' v w hd hr
    obtain ⟨f, -, rfl⟩ := Option.map_eq_some_iff.1 hR
    exact hr
  · intro k R hR
    obtain ⟨f, hf, rfl⟩ := Option.map_eq_some_iff.1 hR
    obtain ⟨j, hj⟩ := mem hf
    exact hinh _ hj
  · intro k R hR vs v w w' hr _ hE
    obtain ⟨f, hf, rfl⟩ := Option.map_eq_some_iff.1 hR
    obtain ⟨j, hj⟩ := mem hf
    exact hE _ hj v hr
  · refine wpRel_post (fun a' w' h' => ?_) _ h
    unfold wpOp
    rw [hot]
    have hw : Region.wanted ot (yielded ops a'.tmps) = true := by simp [Region.wanted, hg]
    simp only [hw, if_true]
    exact .inl h'
  · rw [hrep]
    unfold left
    rw [List.filter_eq_self.2 (by simp)]
    simp
  · intro j hj
    exact (hno j hj).elim
  · exact congrFun (hrep ops.size) l'.length
  · rw [hrep]
    generalize ops.size = n
    induction n with
    | zero => rfl
    | succ n ih => simpa [frameR] using ih
  · intro j hj
    exact (hno j hj).elim
  · intro j hj
    exact (hno j hj).elim
end
end Go.Proofs.YtmmbblfmhcegcaaGreat

namespace Go.Proofs.YtmmbblfmhcegcaaGreat
open Go.RowKit

set_option maxRecDepth 100000 in
theorem great_any (p : List Sp) (win : Int) (sv : Value) (w : World) (h : RdS w w.heap.size sv p) :
    Calls Tryz.prog 5 #[ptV sv win] w fun e w' => e = .returned (.bool (greatB p)) ∧ Below w.heap.size w w' := by
  obtain ⟨A, cap, b, off, rfl, h2, h3, h4, h5⟩ := h
  go_enter Tryz.func5, Tryz.ntmps5
  go_wp2
  go_loopw [3] (fun i wr => ∃ k : Nat, k ≤ p.length ∧ k ≤ 41 ∧ i = .int .i64 k ∧ Hid ((p.take k).any bigB = false) ∧ Below w.heap.size w wr ∧ wr.cell? ⟨w.heap.size, 0, none⟩ = some (.slice A p.length cap)) (fun i _ => p.length - (intOf i).toNat)
  case atStart => exact ⟨0, by omega, by omega, rfl, hide rfl, (Below.refl _ _).alloc (Nat.le_refl _) _, by simp⟩
  case round =>
    obtain ⟨k, hk, hk41, rfl, hno, hB, hcell⟩ := hrel
    by_cases hlt : k < p.length
    · by_cases h40 : k ≤ 40
      · obtain ⟨rfl, hb⟩ := h4 (by omega)
        have hx := List.getElem?_eq_getElem hlt
        obtain ⟨cs, ⟨cv, rfl, A', cap', b', off', rfl, g2, g3, g4, g5⟩, hat⟩ := h5 k p[k] hx
        obtain ⟨c0, c1, c2, c3, c4, c5⟩ := (hat.below hB hb).c6
        by_cases hbig : 20 < p[k].cmps.length
        · have hg := hide (great_yes hx (by omega) hbig)
          clear g4 g5 hat hx
          generalize p[k].cmps.length = m at *
          go_wp2
          go_ret
          exact ⟨ret_bool hg.out.symm, hB⟩
        · have hnx : Hid ((p.take (k + 1)).any bigB = false) := hide (by rw [any_snoc hx, hno.out]; simpa [bigB] using hbig)
          clear g4 g5 hat hx hno
          replace hbig := Nat.not_lt.1 hbig
          generalize p[k].cmps.length = m at *
          go_wp2
          exact ⟨⟨k + 1, by omega, by omega, rfl, hnx, hB, hcell⟩, by simp [intOf]; omega⟩
      · have hg := hide (great_end hno.out (.inr (by omega)))
        clear h4 h5
        go_wp2
        go_ret
        exact ⟨ret_bool hg.out.symm, hB⟩
    · have hg := hide (great_end hno.out (.inl ⟨by omega, hk41⟩))
      clear h4 h5
      go_wp2
      go_ret
      exact ⟨ret_bool hg.out.symm, hB⟩

end Go.Proofs.YtmmbblfmhcegcaaGreat

namespace Go.Proofs.YtmmbblfmhcegcaaGreat
open Go.RowKit

def cmBad (c : Cm) : Bool := !c.ok
def spBad (s : Sp) : Bool := !s.ok

set_option maxRecDepth 100000 in
theorem idx_cmp (cs : List Cm) (v : Value) (w : World) (h : RdC w w.heap.size v cs) :
    Calls Tryz.prog 77 #[v, .func (.func 57) #[] #[]] w fun e w' => e = .returned (.int .i64 (idxB cmBad cs)) ∧ Below w.heap.size w w' := by
  obtain ⟨A, cap, b, off, rfl, h2, h3, h4, h5⟩ := h
  go_enter Tryz.func77, Tryz.ntmps77
  go_wp2
  go_loopw [8] (fun i wr => ∃ k : Nat, k ≤ cs.length ∧ i = .int .i64 k ∧ Hid ((cs.take k).any cmBad = false) ∧ Below w.heap.size w wr) (fun i _ => cs.length - (intOf i).toNat)
  case atStart => exact ⟨0, by omega, rfl, hide rfl, Below.refl _ _⟩
  case round =>
    obtain ⟨k, hk, rfl, hno, hB⟩ := hrel
    by_cases hlt : k < cs.length
    · obtain ⟨rfl, hb⟩ := h4 (by omega)
      have hx := List.getElem?_eq_getElem hlt
      obtain ⟨vs, ⟨rfl, -⟩, hat⟩ := h5 k cs[k] hx
      obtain ⟨c0, c1, c2, c3, c4, c5, c6, c7, c8⟩ := (hat.below hB hb).c9
      have hcall := hide (cmp_any cs[k])
      have hnx : cmBad cs[k] = false → Hid ((cs.take (k + 1)).any cmBad = false) := fun h => hide (by rw [any_snoc hx, hno.out, h]; rfl)
      have hat1 : cmBad cs[k] = true → Hid (idxB cmBad cs = k) := fun h => hide (idx_at hx h hno.out)
      clear hat h5 hx hno
      generalize cs[k] = c at *
      have hz := hB.size
      cases hok : c.ok with
      | true =>
        rw [hok] at hcall
        replace hnx := hnx (by simp [cmBad, hok])
        clear hat1 hok
        go_wp2_with (go_at_call 57; (with_reducible refine (hcall.out _).mono ?_); rintro e w1 ⟨rfl, hB1⟩)
        exact ⟨⟨k + 1, by omega, rfl, hnx, hB.trans (hB1.mono hz)⟩, by simp [intOf]; omega⟩
      | false =>
        rw [hok] at hcall
        replace hat1 := hat1 (by simp [cmBad, hok])
        clear hnx hok
        go_wp2_with (go_at_call 57; (with_reducible refine (hcall.out _).mono ?_); rintro e w1 ⟨rfl, hB1⟩)
        go_ret
        exact ⟨ret_int hat1.out.symm, hB.trans (hB1.mono hz)⟩
    · obtain rfl : k = cs.length := by omega
      have hi := hide (idx_none (by rw [List.take_of_length_le (Nat.le_refl _)] at hno; exact hno.out))
      clear h4 h5
      go_wp2
      go_ret
      exact ⟨ret_int hi.out.symm, hB⟩

theorem contains_cmp (cs : List Cm) (v : Value) (w : World) (h : RdC w w.heap.size v cs) :
    Calls Tryz.prog 56 #[v, .func (.func 57) #[] #[]] w fun e w' => e = .returned (.bool (cs.any cmBad)) ∧ Below w.heap.size w w' := by
  have hi := hide (idx_cmp cs v w h)
  have ha := hide (idx_any cmBad cs)
  generalize idxB cmBad cs = r at *
  go_enter Tryz.func56, Tryz.ntmps56
  go_wp2_with (go_at_call 77; (with_reducible refine hi.out.mono ?_); rintro e w1 ⟨rfl, hB1⟩)
  go_ret
  exact ⟨ret_bool ha.out, hB1⟩

set_option maxRecDepth 100000 in
set_option maxHeartbeats 1000000 in
theorem wrong_any (s : Sp) (cv : Value) (w : World) (h : RdC w w.heap.size cv s.cmps) :
    Calls Tryz.prog 54 #[spV s cv] w fun e w' => e = .returned (.bool (spBad s)) ∧ Below w.heap.size w w' := by
  have hc := hide fun w1 (hb : Below w.heap.size w w1) => contains_cmp s.cmps cv w1 (h.below hb hb.size)
  obtain ⟨neg, kind, mn, mx, strict, cmps⟩ := s
  have hv : spBad ⟨neg, kind, mn, mx, strict, cmps⟩ = !(numB kind && numB mn && numB mx && !cmps.any cmBad) := by
    have := any_not Cm.ok cmps
    simp only [spBad, Sp.ok]
    rw [show cmps.any cmBad = !cmps.all Cm.ok from this, Bool.not_not]
  rw [hv]; clear hv
  have h1 := hide (number_any kind)
  have h2 := hide (number_any mn)
  have h3 := hide (number_any mx)
  simp only at hc
  generalize numB kind = b1 at *
  generalize numB mn = b2 at *
  generalize numB mx = b3 at *
  generalize cmps.any cmBad = b4 at *
  cases b1 <;> cases b2 <;> cases b3
  all_goals
    go_enter Tryz.func54, Tryz.ntmps54
    go_wp2_with (first | (go_at_call 55; (with_reducible refine (h1.out _).mono ?_); rintro e w1 ⟨rfl, rfl⟩) | (go_at_call 55; (with_reducible refine (h2.out _).mono ?_); rintro e w1 ⟨rfl, rfl⟩) | (go_at_call 55; (with_reducible refine (h3.out _).mono ?_); rintro e w1 ⟨rfl, rfl⟩) | (go_at_call 56; (with_reducible refine (stayf (G := w.heap.size + 1) (hc.out _ ((Below.refl _ _).alloc (Nat.le_refl _) _)) (by simp)).mono ?_); rintro e w1 ⟨rfl, hc1, hf1, hz1, hB1⟩))
    go_ret
    refine ⟨ret_bool (by simp), ?_⟩
    repeat (first | exact Below.refl _ _ | refine Below.trans ?_ (Below.mono (Hid.out ‹Hid (Below _ _ _)›) (by first | omega | (simp; omega))) | refine Below.setCell ?_ (by first | omega | (simp; done) | (simp; omega)) _ | refine Below.alloc ?_ (by first | omega | (simp; done) | (simp; omega)) _ | refine Below.drew ?_)
end Go.Proofs.YtmmbblfmhcegcaaGreat

namespace Go.Proofs.YtmmbblfmhcegcaaGreat
open Go.RowKit

set_option maxRecDepth 100000 in
theorem idx_step (p : List Sp) (v : Value) (w : World) (h : RdS w w.heap.size v p) :
    Calls Tryz.prog 79 #[v, .func (.func 54) #[] #[]] w fun e w' => e = .returned (.int .i64 (idxB spBad p)) ∧ Below w.heap.size w w' := by
  obtain ⟨A, cap, b, off, rfl, h2, h3, h4, h5⟩ := h
  go_enter Tryz.func79, Tryz.ntmps79
  go_wp2
  go_loopw [8] (fun i wr => ∃ k : Nat, k ≤ p.length ∧ i = .int .i64 k ∧ Hid ((p.take k).any spBad = false) ∧ Below w.heap.size w wr) (fun i _ => p.length - (intOf i).toNat)
  case atStart => exact ⟨0, by omega, rfl, hide rfl, Below.refl _ _⟩
  case round =>
    obtain ⟨k, hk, rfl, hno, hB⟩ := hrel
    by_cases hlt : k < p.length
    · obtain ⟨rfl, hb⟩ := h4 (by omega)
      have hx := List.getElem?_eq_getElem hlt
      obtain ⟨vs, ⟨cv, rfl, hcv⟩, hat⟩ := h5 k p[k] hx
      obtain ⟨c0, c1, c2, c3, c4, c5⟩ := (hat.below hB hb).c6
      have hcall := hide (wrong_any p[k] cv wr (hcv.below hB hB.size))
      have hnx : spBad p[k] = false → Hid ((p.take (k + 1)).any spBad = false) := fun h => hide (by rw [any_snoc hx, hno.out, h]; rfl)
      have hat1 : spBad p[k] = true → Hid (idxB spBad p = k) := fun h => hide (idx_at hx h hno.out)
      clear hat h5 hx hno hcv
      generalize p[k] = s at *
      have hz := hB.size
      cases hok : spBad s with
      | false =>
        rw [hok] at hcall
        replace hnx := hnx hok
        clear hat1 hok
        go_wp2_with (go_at_call 54; (with_reducible refine hcall.out.mono ?_); rintro e w1 ⟨rfl, hB1⟩)
        exact ⟨⟨k + 1, by omega, rfl, hnx, hB.trans (hB1.mono hz)⟩, by simp [intOf]; omega⟩
      | true =>
        rw [hok] at hcall
        replace hat1 := hat1 hok
        clear hnx hok
        go_wp2_with (go_at_call 54; (with_reducible refine hcall.out.mono ?_); rintro e w1 ⟨rfl, hB1⟩)
        go_ret
        exact ⟨ret_int hat1.out.symm, hB.trans (hB1.mono hz)⟩
    · obtain rfl : k = p.length := by omega
      have hi := hide (idx_none (by rw [List.take_of_length_le (Nat.le_refl _)] at hno; exact hno.out))
      clear h4 h5
      go_wp2
      go_ret
      exact ⟨ret_int hi.out.symm, hB⟩

theorem contains_step (p : List Sp) (v : Value) (w : World) (h : RdS w w.heap.size v p) :
    Calls Tryz.prog 58 #[v, .func (.func 54) #[] #[]] w fun e w' => e = .returned (.bool (p.any spBad)) ∧ Below w.heap.size w w' := by
  have hi := hide (idx_step p v w h)
  have ha := hide (idx_any spBad p)
  generalize idxB spBad p = r at *
  go_enter Tryz.func58, Tryz.ntmps58
  go_wp2_with (go_at_call 79; (with_reducible refine hi.out.mono ?_); rintro e w1 ⟨rfl, hB1⟩)
  go_ret
  exact ⟨ret_bool ha.out, hB1⟩

theorem RdS.len {w : World} {B : Nat} {v : Value} {p : List Sp} (h : RdS w B v p) : ∃ A cap, v = .slice A p.length cap := by
  obtain ⟨A, cap, b, off, rfl, -⟩ := h
  exact ⟨A, cap, rfl⟩
theorem RdL.lenle {α : Type} {sz : Nat} {cells : World → Nat → α → List Value → Prop} {w : World} {B : Nat} {v : Value} {xs : List α} (h : RdL sz cells w B v xs) : xs.length ≤ 9223372036854775807 := by
  obtain ⟨A, cap, b, off, rfl, h1, h2, -⟩ := h
  omega

set_option maxRecDepth 100000 in
set_option maxHeartbeats 1000000 in
theorem right_any (p : List Sp) (win : Int) (v : Value) (w : World) (h : RdS w w.heap.size v p) :
    Calls Tryz.prog 43 #[ptV v win] w fun e w' => e = .returned (.bool (rightB p win)) ∧ Below w.heap.size w w' := by
  have hc := hide fun w1 (hb : Below w.heap.size w w1) => contains_step p v w1 (h.below hb hb.size)
  have hl := RdL.lenle h
  obtain ⟨A, cap, rfl⟩ := h.len
  have h1 := hide (number_any win)
  have ha : p.any spBad = !p.all Sp.ok := any_not Sp.ok p
  by_cases h0 : p.length = 0
  · obtain rfl := List.eq_nil_of_length_eq_zero h0
    clear hc h h1 ha hl
    go_enter Tryz.func43, Tryz.ntmps43
    go_wp2
    go_ret
    exact ⟨rfl, (Below.refl _ _).alloc (Nat.le_refl _) _⟩
  by_cases h26 : 26 < p.length
  · have hf : rightB p win = false := by simp [rightB]; omega
    rw [hf]
    clear hf h0
    go_enter Tryz.func43, Tryz.ntmps43
    go_wp2
    go_ret
    exact ⟨rfl, (Below.refl _ _).alloc (Nat.le_refl _) _⟩
  have hv : rightB p win = (numB win && !p.any spBad) := by
    rw [ha, Bool.not_not]
    have e1 : 0 < p.length := by omega
    have e2 : p.length ≤ 26 := by omega
    simp [rightB, e1, e2]
  rw [hv]; clear hv ha
  replace h0 : 0 < p.length := by omega
  replace h26 : p.length ≤ 26 := by omega
  generalize numB win = b1 at *
  generalize p.any spBad = b2 at *
  generalize p.length = n at *
  cases b1
  all_goals
    go_enter Tryz.func43, Tryz.ntmps43
    go_wp2_with (first | (go_at_call 55; (with_reducible refine (h1.out _).mono ?_); rintro e w1 ⟨rfl, rfl⟩) | (go_at_call 58; (with_reducible refine (stayf (G := w.heap.size + 1) (hc.out _ ((Below.refl _ _).alloc (Nat.le_refl _) _)) (by simp)).mono ?_); rintro e w1 ⟨rfl, hc1, hf1, hz1, hB1⟩))
    go_ret
    refine ⟨ret_bool (by simp), ?_⟩
    repeat (first | exact Below.refl _ _ | refine Below.trans ?_ (Below.mono (Hid.out ‹Hid (Below _ _ _)›) (by first | omega | (simp; omega))) | refine Below.setCell ?_ (by first | omega | (simp; done) | (simp; omega)) _ | refine Below.alloc ?_ (by first | omega | (simp; done) | (simp; omega)) _ | refine Below.drew ?_)
end Go.Proofs.YtmmbblfmhcegcaaGreat

namespace Go.Proofs.YtmmbblfmhcegcaaGreat
open Go.RowKit

theorem whole_any (b : Bool) (w : World) : Calls Tryz.prog 63 #[.bool b] w fun e w' => e = .returned (.int .i64 (whole b)) ∧ w = w' := by
  cases b
  all_goals
    go_enter Tryz.func63, Tryz.ntmps63
    go_wp2
    go_ret
    exact ⟨rfl, rfl⟩

theorem rule3_any (i : Int) (s : Sp) (cv : Value) (w : World) :
    Calls Tryz.prog 65 #[.int .i64 i, spV s cv] w fun e w' => e = .returned (.bool (decide (s.kind < 6))) ∧ Below w.heap.size w w' := by
  go_enter Tryz.func65, Tryz.ntmps65
  go_wp2
  go_ret
  exact ⟨rfl, (Below.refl _ _).alloc (Nat.le_refl _) _⟩

set_option maxHeartbeats 1000000 in
theorem rule5_any (i : Int) (s : Sp) (cv : Value) (w : World) :
    Calls Tryz.prog 67 #[.int .i64 i, spV s cv] w fun e w' => e = .returned (.bool (s.neg || decide (0 < s.min ∧ s.min ≤ s.max ∧ s.max ≤ 3))) ∧ Below w.heap.size w w' := by
  obtain ⟨neg, kind, mn, mx, strict, cmps⟩ := s
  cases neg
  · by_cases h1 : 0 < mn
    · by_cases h2 : mn ≤ mx
      · go_enter Tryz.func67, Tryz.ntmps67
        go_wp2
        go_ret
        exact ⟨ret_bool (by simp [h1, h2]), (Below.refl _ _).alloc (Nat.le_refl _) _⟩
      · go_enter Tryz.func67, Tryz.ntmps67
        go_wp2
        go_ret
        exact ⟨ret_bool (by simp; omega), (Below.refl _ _).alloc (Nat.le_refl _) _⟩
    · go_enter Tryz.func67, Tryz.ntmps67
      go_wp2
      go_ret
      exact ⟨ret_bool (by simp; omega), (Below.refl _ _).alloc (Nat.le_refl _) _⟩
  · go_enter Tryz.func67, Tryz.ntmps67
    go_wp2
    go_ret
    exact ⟨rfl, (Below.refl _ _).alloc (Nat.le_refl _) _⟩

theorem rule1_any (n : Nat) (win : Int) (A : Option Addr) (cap B : Nat) (w : World) (h0 : w.cell? ⟨B, 0, none⟩ = some (.slice A n cap)) (h1 : w.cell? ⟨B, 1, none⟩ = some (.int .i64 win)) :
    Calls Tryz.prog 62 #[.pointer (some ⟨B, 0, none⟩)] w fun e w' => e = .returned (.int .i64 (whole (decide (n ≤ 6 ∧ win ≤ 1073741824)))) ∧ w = w' := by
  have hw := hide whole_any
  by_cases hn : n ≤ 6
  · have hv : decide (n ≤ 6 ∧ win ≤ 1073741824) = decide (win ≤ 1073741824) := by simp [hn]
    rw [hv]; clear hv
    have hw := hide (hw.out (decide (win ≤ 1073741824)))
    have hn' : (n : Int) ≤ 6 := by omega
    go_enter Tryz.func62, Tryz.ntmps62
    go_wp2_with (go_at_call 63; (with_reducible refine (hw.out _).mono ?_); rintro e w1 ⟨rfl, rfl⟩)
    go_ret
    exact ⟨rfl, rfl⟩
  · have hv : decide (n ≤ 6 ∧ win ≤ 1073741824) = false := by simp [hn]
    rw [hv]; clear hv
    have hw := hide (hw.out false)
    have hn' : ¬ ((n : Int) ≤ 6) := by omega
    go_enter Tryz.func62, Tryz.ntmps62
    go_wp2_with (go_at_call 63; (with_reducible refine (hw.out _).mono ?_); rintro e w1 ⟨rfl, rfl⟩)
    go_ret
    exact ⟨rfl, rfl⟩

theorem rule6_any (n : Int) (B : Nat) (w : World) (h0 : w.cell? ⟨B, 0, none⟩ = some (.int .i64 n)) :
    Calls Tryz.prog 68 #[.pointer (some ⟨B, 0, none⟩)] w fun e w' => e = .returned (.int .i64 (whole (decide (n ≤ 4)))) ∧ w = w' := by
  have hw := hide (whole_any (decide (n ≤ 4)))
  go_enter Tryz.func68, Tryz.ntmps68
  go_wp2_with (go_at_call 63; (with_reducible refine (hw.out _).mono ?_); rintro e w1 ⟨rfl, rfl⟩)
  go_ret
  exact ⟨rfl, rfl⟩

/-- The box of a pattern. -/
structure PBox (w : World) (B : Nat) (p : List Sp) (win : Int) : Prop where
  box : ∃ sv, Blk w B 24 #[sv, .int .i64 win] ∧ RdS w w.heap.size sv p
theorem PBox.below {w w' : World} {B n : Nat} {p : List Sp} {win : Int} (h : PBox w B p win) (hb : Below n w w') (hn : w.heap.size ≤ n) : PBox w' B p win := by
  obtain ⟨sv, h1, h2⟩ := h.box
  exact ⟨sv, h1.below hb (by have := h1.lt; omega), h2.below (hb.mono hn) hb.size⟩

set_option maxHeartbeats 1000000 in
theorem rule2_any (p : List Sp) (win : Int) (B : Nat) (w : World) (h : PBox w B p win) (h0 : 0 < p.length) :
    Calls Tryz.prog 64 #[.pointer (some ⟨B, 0, none⟩)] w fun e w' => e = .returned (.int .i64 (whole (rule2 p))) ∧ w = w' := by
  obtain ⟨sv, hb, A, cap, b, off, rfl, h2, h3, h4, h5⟩ := h.box
  obtain ⟨rfl, hlt⟩ := h4 h0
  have hx := List.getElem?_eq_getElem h0
  obtain ⟨cs, ⟨cv, rfl, hcv⟩, hat⟩ := h5 0 p[0] hx
  obtain ⟨c0, c1, c2, c3, c4, c5⟩ := hat.c6
  have e0 : w.cell? ⟨B, 0, none⟩ = some (.slice (some ⟨b, off, none⟩) p.length cap) := hb.cell 0
  have hst : stepAt p 0 = p[0] := by simp [stepAt, hx]
  have hr : rule2 p = (!p[0].neg && !p[0].strict) := by simp [rule2, hst]
  rw [hr]
  clear hr hst hcv hat h5 hb hx
  simp only [Nat.zero_mul, Nat.add_zero] at c0 c1 c2 c3 c4 c5
  have h0' : (0 : Int) < p.length := by omega
  have hw := hide whole_any
  generalize p[0] = s at *
  obtain ⟨neg, kind, mn, mx, strict, cmps⟩ := s
  simp only at c0 c1 c2 c3 c4 c5
  cases neg
  · have hw := hide (hw.out (!strict))
    go_enter Tryz.func64, Tryz.ntmps64
    go_wp2_with (go_at_call 63; (with_reducible refine (hw.out _).mono ?_); rintro e w1 ⟨rfl, rfl⟩)
    go_ret
    exact ⟨rfl, rfl⟩
  · have hw := hide (hw.out false)
    go_enter Tryz.func64, Tryz.ntmps64
    go_wp2_with (go_at_call 63; (with_reducible refine (hw.out _).mono ?_); rintro e w1 ⟨rfl, rfl⟩)
    go_ret
    exact ⟨rfl, rfl⟩
end Go.Proofs.YtmmbblfmhcegcaaGreat

namespace Go.Proofs.YtmmbblfmhcegcaaGreat
open Go.RowKit Go.Shelf
attribute [local go_sem] Oper.semAt_some

theorem grownBy_of_below {W W' : World} (h : Below W.heap.size W W') : W.grownBy W' none := ⟨h.os, h.tape, h.output, h.size, fun k hk _ => h.block k hk⟩
theorem Tm.names_eq (t : Tm) : t.names = if t.k = 0 then [] else if t.two = true then [t.s, t.r] else [t.s] := rfl

set_option maxRecDepth 100000 in
set_option maxHeartbeats 2000000 in
theorem names1_in (n : Nat) (hn : 1 ≤ n) (l Bt : Nat) (t : Tm) (J Jx : List Int → World → Prop) (W : World) (hJ : AbidesFrom W.heap.size J) (hB : Blk W Bt 76 #[.int .u8 t.k, .int .i64 t.n, .int .i64 t.s, .int .i64 t.r])
    (hY : ∀ pre x W, J pre W → pre.length < t.names.length → YieldAt Fence.wide (n - 1) Tryz.prog l #[.int .i64 x] W fun e W' =>
      (e = .returned (.bool true) ∧ J (pre ++ [x]) W' ∧ KB Bt W W') ∨ (e = .returned (.bool false) ∧ Jx (pre ++ [x]) W'))
    (h0 : J [] W) :
    CallsIn Fence.wide n Tryz.prog 88 #[.func (.yield l) #[] #[], .pointer (some ⟨Bt, 0, none⟩)] W fun e W' => (∃ v, e = .returned v) ∧
      ((∃ ys, ys = t.names ∧ J ys W') ∨ (∃ pre, pre <+: t.names ∧ Jx pre W')) := by
  have hro : Fence.wide.round = none := rfl
  obtain ⟨k, m, s, r⟩ := t
  simp only at hB
  obtain ⟨c0, c1, c2, c3⟩ := hB.c4
  by_cases hk : k = 0
  · subst hk
    refine callsIn_of_wp Tryz.func88 rfl trivial ?_ rfl
    simp only [Tryz.ntmps88, List.size_toArray, List.length_cons, List.length_nil, Nat.reduceAdd, Nat.reduceSub, Array.replicate_succ, Array.replicate_zero, List.push_toArray, List.append_toArray, List.nil_append, List.cons_append]
    gi_wp2_with (refine ⟨fun _ _ => trivial, ?_⟩)
    go_end0
    exact ⟨⟨_, rfl⟩, .inl ⟨_, rfl, h0⟩⟩
  have hk1 : (k == 0) = false := by simpa using hk
  have hk2 : (k != 0) = true := by simpa using hk
  have hnm : Tm.names ⟨k, m, s, r⟩ = if Tm.two ⟨k, m, s, r⟩ = true then [s, r] else [s] := by simp [Tm.names, hk]
  obtain ⟨fn, tmps, assign, body, hy, hR⟩ := hY [] s W h0 (by rw [hnm]; split <;> simp)
  have htwo := hide (two_any k m s r)
  have hYh := hide hY
  have hJh := hide hJ
  have hBh := hide hB
  have hN := hide hnm
  clear hY hJ hB hnm
  refine callsIn_of_wp Tryz.func88 rfl trivial ?_ rfl
  simp only [Tryz.ntmps88, List.size_toArray, List.length_cons, List.length_nil, Nat.reduceAdd, Nat.reduceSub, Array.replicate_succ, Array.replicate_zero, List.push_toArray, List.append_toArray, List.nil_append, List.cons_append]
  gi_wp2
  refine hR.mono ?_
  rintro e W3 (⟨rfl, hJ3, hk3⟩ | ⟨rfl, hJx3⟩)
  · have hB3 : Blk W3 Bt 76 #[.int .u8 k, .int .i64 m, .int .i64 s, .int .i64 r] := Eq.trans hk3 hBh.out
    clear c0 c1 c2 c3
    obtain ⟨c0, c1, c2, c3⟩ := hB3.c4
    have HB3 := hide hB3
    clear hk3 hB3
    have hz3 := hide (rfl : W3.heap.size = W3.heap.size)
    generalize hbt : Tm.two ⟨k, m, s, r⟩ = bt at *
    gi_wp2_with (refine ⟨fun _ _ => trivial, ?_⟩)
    go_simp
    cases bt with
    | false =>
      gi_wp2_with (refine ⟨trivial, ?_⟩; gi_at_call 87; (with_reducible refine (callsIn_wide.2 (htwo.out _)).mono ?_); rintro e W4 ⟨rfl, hB4⟩)
      go_end0
      refine ⟨⟨_, rfl⟩, .inl ⟨_, ?_, hJh.out _ W3 W4 none hJ3 (grownBy_of_below hB4) (fun _ h => by cases h)⟩⟩
      rw [hN.out]; rfl
    | true =>
      gi_wp2_with (refine ⟨trivial, ?_⟩; gi_at_call 87; (with_reducible refine (callsIn_wide.2 (htwo.out _)).mono ?_); rintro e W4 ⟨rfl, hB4⟩; obtain ⟨fn2, tmps2, assign2, body2, hy2, hR2⟩ := hYh.out _ r W4 (hJh.out _ W3 W4 none hJ3 (grownBy_of_below hB4) (fun _ h => by cases h)) (by rw [hN.out]; simp); have d3 := (hB4.cell (p := ⟨Bt, 3, none⟩) HB3.out.lt).trans c3)
      refine hR2.mono ?_
      rintro e W5 (⟨rfl, hJ5, hk5⟩ | ⟨rfl, hJx5⟩)
      · gi_wp2_with (refine ⟨fun _ _ => trivial, ?_⟩)
        go_end0
        exact ⟨⟨_, rfl⟩, .inl ⟨_, by rw [hN.out]; rfl, hJ5⟩⟩
      · gi_wp2_with (refine ⟨fun _ _ => trivial, ?_⟩)
        go_end0
        exact ⟨⟨_, rfl⟩, .inr ⟨_, by rw [hN.out]; exact ⟨[], rfl⟩, hJx5⟩⟩
  · gi_wp2_with (refine ⟨fun _ _ => trivial, ?_⟩)
    go_end0
    refine ⟨⟨_, rfl⟩, .inr ⟨_, ?_, hJx3⟩⟩
    rw [hN.out]
    split
    · exact ⟨[r], rfl⟩
    · exact ⟨[], rfl⟩
end Go.Proofs.YtmmbblfmhcegcaaGreat
