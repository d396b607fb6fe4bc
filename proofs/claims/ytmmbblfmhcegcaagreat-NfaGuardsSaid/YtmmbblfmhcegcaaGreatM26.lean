/- Several texts of one proof: A pattern's rows by definition: the walk of the reference's Rows. | The examples of the layer of automata: wakes() is true. -/
import Derived.Test.YtmmbblfmhcegcaaGreatM25
import Derived.Test.YtmmbblfmhcegcaaGreatM17
import Derived.Test.YtmmbblfmhcegcaaGreatM23
import Derived.Test.YtmmbblfmhcegcaaGreatM18
import Derived.Test.YtmmbblfmhcegcaaGreatM06

namespace Go.Proofs.YtmmbblfmhcegcaaGreat
open Go.RowKit Go.Shelf

theorem refTo_succ (p : List Sp) (k : Nat) : refTo p (k + 1) = if (stepAt p k).neg then refTo p k else longerL (refTo p k) k (stepAt p k) := by
  simp [refTo, List.range_succ, List.foldl_append]
theorem stepAt_mem {p : List Sp} {k : Nat} (hk : k < p.length) : stepAt p k ∈ p := by
  simp [stepAt, List.getD_eq_getElem?_getD, List.getElem?_eq_getElem hk]
theorem refTo_len {p : List Sp} (h : Plain p) : ∀ k, k ≤ p.length → (refTo p k).length ≤ 3 ^ k ∧ ∀ r ∈ refTo p k, r.length ≤ 3 * k
  | 0, _ => by simp [refTo]
  | k + 1, hk => by
    obtain ⟨h1, h2⟩ := refTo_len h k (by omega)
    rw [refTo_succ]
    cases hn : (stepAt p k).neg with
    | true =>
      simp only [if_true]
      exact ⟨Nat.le_trans h1 (Nat.pow_le_pow_right (by omega) (by omega)), fun r hr => by have := h2 r hr; omega⟩
    | false =>
      have hm := (h.each _ (stepAt_mem (show k < p.length by omega)) hn).2.2
      simp only [Bool.false_eq_true, if_false]
      refine ⟨?_, fun r hr => ?_⟩
      · have h3 := longer_len (refTo p k) k (stepAt p k)
        have h4 : (refTo p k).length * (stepAt p k).max.toNat ≤ 3 ^ k * 3 := Nat.mul_le_mul h1 (by omega)
        rw [Nat.pow_succ]
        omega
      · obtain ⟨r0, hr0, hle⟩ := longer_mem hr
        have := h2 r0 hr0
        omega
theorem refTo_small {p : List Sp} (h : Plain p) (k : Nat) (hk : k ≤ p.length) : (refTo p k).length ≤ 1000 ∧ ∀ r ∈ refTo p k, r.length ≤ 1000 := by
  obtain ⟨h1, h2⟩ := refTo_len h k hk
  have h6 := h.len
  have h3 : 3 ^ k ≤ 3 ^ 6 := Nat.pow_le_pow_right (by omega) (by omega)
  exact ⟨by omega, fun r hr => by have := h2 r hr; omega⟩
theorem owll_one (w : World) (G : Nat) (hG : G ≤ w.heap.size) : OwLL (w.alloc (.cells #[.slice none 0 0] 28)) G (.slice (some ⟨w.heap.size, 0, none⟩) 1 1) [[]] [.slice none 0 0] :=
  ⟨⟨rfl, .inr ⟨_, 1, _, rfl, hG, heap_alloc_new w _, Nat.le_refl _, by decide, rfl, rfl⟩⟩, fun j r l h1 h2 => by
    have hj : j = 0 := by
      have := (List.getElem?_eq_some_iff.1 h1).1
      simpa using this
    subst hj
    simp at h1 h2
    subst h1 h2
    exact OwI.nil _ _⟩

set_option maxRecDepth 100000 in
set_option maxHeartbeats 4000000 in
theorem rrows_any (p : List Sp) (win : Int) (v : Value) (w : World) (h : RdS w w.heap.size v p) (hm : mayB p win = true) (hcl : ∀ s ∈ p, s.cmps.length ≤ 1000) :
    Calls Tryz.prog 12 #[ptV v win] w fun e w' => (∃ u us, e = .returned u ∧ OwLL w' w.heap.size u (refRows p) us) ∧ Below w.heap.size w w' := by
  have hp := may_plain hm
  have hch := hide fun w1 (hb : Below w.heap.size w w1) => rcright_any p win v w1 (h.below hb hb.size) hcl
  rw [hm] at hch
  have hsm := hide fun k (hk : k ≤ p.length) => refTo_small hp k hk
  have hmx := hide fun s (hs : s ∈ p) (hn : s.neg = false) => show 0 ≤ s.max ∧ s.max ≤ 10 from (by have := hp.each s hs hn; omega)
  have hsu := hide fun k => refTo_succ p k
  have h0 : Hid (refTo p 0 = [[]]) := hide rfl
  have hfull : Hid (refTo p p.length = refRows p) := hide rfl
  have hlen := hp.len
  obtain ⟨A, cap, b, off, rfl, h2, h3, h4, h5⟩ := h
  have hX := hide ((Below.refl w.heap.size w).alloc (Nat.le_refl _) (.cells #[.slice A p.length cap, .int .i64 win] 24))
  clear hm hcl hp
  go_enter Tryz.func12, Tryz.ntmps12
  go_wp2_with (go_at_call 8; (with_reducible refine (stayf (G := w.heap.size + 1) (hch.out _ hX.out) (by simp)).mono ?_); rintro e w1 ⟨rfl, hc1, hf1, hz1, hB1⟩)
  have hB1w := hide (hX.out.trans (hB1.out.mono (by omega)))
  have hz : w.heap.size + 1 ≤ w1.heap.size := hz1
  have hx1 := hide ((Blk.new w 24 #[.slice A p.length cap, .int .i64 win]).below hB1.out (Nat.lt_succ_self _))
  have ho := hide (owll_one w1 w1.heap.size (Nat.le_refl _))
  have hBo := hide ((Below.refl w1.heap.size w1).alloc (Nat.le_refl _) (.cells #[.slice none 0 0] 28))
  clear hch hc1 hf1 hz1 hB1 hX
  go_loopw [3, 4] (fun o kv wr => ∃ (k : Nat) (os : List Value), k ≤ p.length ∧ kv = .int .i64 k ∧ OwLL wr w1.heap.size o (refTo p k) os ∧ Below w1.heap.size w1 wr) (fun _ kv _ => p.length - (intOf kv).toNat)
  case atStart => exact ⟨0, [_], by omega, rfl, by rw [h0.out]; exact ho.out, hBo.out⟩
  case round =>
    obtain ⟨k, os, hk, rfl, hown, hB⟩ := hrel
    have hzr := hB.size
    have x0 := (hx1.out.below hB hz).cell 0
    simp at x0
    have hxl : w.heap.size < wr.heap.size := by omega
    by_cases hlt : k < p.length
    · obtain ⟨rfl, hb⟩ := h4 (by omega)
      have hx := List.getElem?_eq_getElem hlt
      obtain ⟨cs, ⟨cv, rfl, hcv⟩, hat⟩ := h5 k p[k] hx
      have hbw : Below w.heap.size w wr := hB1w.out.trans (hB.mono (by omega))
      obtain ⟨c0, c1, c2, c3, c4, c5⟩ := (hat.below hbw hb).c6
      have hs := hide (hsu.out k)
      rw [stepAt_eq hx] at hs
      have hm9 := hide (hmx.out p[k] (List.getElem_mem hlt))
      have hsm9 := hsm.out k (by omega)
      have hlo := hide fun (hn : p[k].neg = false) => longer_any (refTo p k) k p[k] cv _ wr hown.rd (by obtain ⟨A, c, e⟩ := rd_form hcv; exact ⟨A, _, c, e⟩) hsm9.1 hsm9.2 (hm9.out hn).1 (hm9.out hn).2
      obtain ⟨Ac, cc, hce⟩ := rd_form hcv
      subst hce
      have hki : (k : Int) < p.length := by omega
      have hbr : b < wr.heap.size := Nat.lt_of_lt_of_le hb hbw.size
      replace hsm9 := hide hsm9
      clear hat h5 hcv hbw hx hmx hm9
      generalize p[k] = s at *
      obtain ⟨neg, kind, mn, mx, strict, cmps⟩ := s
      simp only at c0 c1 c2 c3 c4 c5 hs hlo
      cases neg with
      | true =>
        have hs2 := hide (show refTo p (k + 1) = refTo p k by rw [hs.out, if_pos rfl])
        clear hs hlo
        go_wp2
        exact ⟨⟨k + 1, os, by omega, rfl, by rw [hs2.out]; exact hown, hB⟩, by simp [intOf]; omega⟩
      | false =>
        have hs2 := hide (show refTo p (k + 1) = longerL (refTo p k) k ⟨false, kind, mn, mx, strict, cmps⟩ by rw [hs.out, if_neg (by simp)])
        replace hlo := hide (hlo.out rfl)
        clear hs
        go_wp2_with (go_at_call 31; (with_reducible refine hlo.out.mono ?_); rintro e w2 ⟨⟨u2, us2, rfl, how2⟩, hB2⟩)
        exact ⟨⟨k + 1, us2, by omega, rfl, by rw [hs2.out]; exact how2.mono hzr, hB.trans (hB2.mono hzr)⟩, by simp [intOf]; omega⟩
    · obtain rfl : k = p.length := by omega
      clear h4 h5
      go_wp2
      go_ret
      exact ⟨⟨_, os, rfl, by rw [← hfull.out]; exact hown.mono (by omega)⟩, hB1w.out.trans (hB.mono (by omega))⟩
end Go.Proofs.YtmmbblfmhcegcaaGreat

namespace Go.Proofs.YtmmbblfmhcegcaaGreat
open Go.RowKit
attribute [local go_sem] relVal relEff dT grown_cell grown_frozen valF rowF

theorem ints_eq (l : List Int) (v u : Value) (w : World) (hv : RdI w w.heap.size v l) (hu : RdI w w.heap.size u l) :
    Calls Tryz.prog 14 #[v, u] w fun e w' => e = .returned (.bool true) ∧ Below w.heap.size w w' := by
  have := ints_any l l v u w hv hu
  simpa using this
theorem rowed_eq {w : World} {G G' : Nat} {v u : Value} {q : List (List Int)} (hv : ∃ vs, OwLL w G v q vs) (hu : ∃ us, OwLL w G' u q us) :
    Calls Tryz.prog 11 #[v, u] w fun e w' => e = .returned (.bool true) ∧ Below w.heap.size w w' := by
  obtain ⟨vs, hv⟩ := hv
  obtain ⟨us, hu⟩ := hu
  have := rowed_any q q v u w hv.rd hu.rd
  simpa using this
/-- One state, all zero. -/
def zstF : Fact := (fun v => ∃ g, v = .slice (some ⟨g, 0, none⟩) 1 1, fun v w => ∃ g, v = .slice (some ⟨g, 0, none⟩) 1 1 ∧ Blk w g 41 #[.int .i64 0, .int .i64 0, .bool false, .slice none 0 0, .int .i64 0, .bool false])
theorem zstF_ok : FactOk zstF := ⟨⟨_, 0, rfl⟩, fun _ _ _ ⟨g, h1, h2⟩ hb => ⟨g, h1, h2.below hb h2.lt⟩⟩
def zauF : Fact := (fun v => ∃ g, v = .agg #[.slice (some ⟨g, 0, none⟩) 1 1, .slice none 0 0, .int .i64 0], fun v w => ∃ g, v = .agg #[.slice (some ⟨g, 0, none⟩) 1 1, .slice none 0 0, .int .i64 0] ∧ Blk w g 41 #[.int .i64 0, .int .i64 0, .bool false, .slice none 0 0, .int .i64 0, .bool false])
theorem zauF_ok : FactOk zauF := ⟨⟨_, 0, rfl⟩, fun _ _ _ ⟨g, h1, h2⟩ hb => ⟨g, h1, h2.below hb h2.lt⟩⟩
def llF (G : Nat) (q : List (List Int)) : Fact := (fun v => ∃ A c, v = .slice A q.length c, fun v w => ∃ vs, OwLL w G v q vs)
theorem llF_ok (G : Nat) (q : List (List Int)) : FactOk (llF G q) := ⟨⟨_, none, 0, rfl⟩, fun _ _ _ ⟨vs, h⟩ hb => ⟨vs, h.below hb⟩⟩
def autF (l : List St) (a : List Int) (win : Int) : Fact := (fun v => ∃ lv av, v = atV lv av win, fun v w => ∃ lv av, v = atV lv av win ∧ RdT w w.heap.size lv l ∧ RdI w w.heap.size av a)
theorem autF_ok (l : List St) (a : List Int) (win : Int) : FactOk (autF l a win) := ⟨⟨_, .slice none 0 0, .slice none 0 0, rfl⟩, fun _ _ _ ⟨lv, av, h1, h2, h3⟩ hb => ⟨lv, av, h1, h2.below hb hb.size, h3.below hb hb.size⟩⟩
section
variable {G : Nat} {W x : World}
theorem tab_obj (hG : G ≤ W.heap.size) (o : Obj) : (∃ n, (grown G W x).alloc o = grown G W n) ∧ Below (grown G W x).heap.size (grown G W x) ((grown G W x).alloc o) := by
  have hz := grown_size G W x hG
  have hb : Below (grown G W x).heap.size (grown G W x) ((grown G W x).alloc o) := (Below.refl _ _).alloc (Nat.le_refl _) _
  exact ⟨⟨_, (grown_of ((grown_below G W x).trans (hb.mono hz)) (Nat.le_trans hz hb.size)).symm⟩, hb⟩
theorem tab_ll {P : Program} {f : FuncId} {args : Array Value} {q : List (List Int)} (hG : G ≤ W.heap.size) (h : ∀ w, Below G W w → G ≤ w.heap.size → Calls P f args w fun e w' => (∃ v vs, e = .returned v ∧ OwLL w' w.heap.size v q vs) ∧ Below w.heap.size w w') :
    Calls P f args (grown G W x) fun e w'' => ∃ v, e = .returned v ∧ (∃ n, w'' = grown G W n) ∧ Below (grown G W x).heap.size (grown G W x) w'' ∧ (∃ A c, v = .slice A q.length c) ∧ ∃ vs, OwLL w'' G v q vs := by
  refine tab_call (R := fun v w' => (∃ A c, v = .slice A q.length c) ∧ ∃ vs, OwLL w' G v q vs) hG fun w hb hz => (h w hb hz).mono fun e w' ⟨⟨v, vs, he, ho⟩, hb'⟩ => ⟨⟨v, he, own_form ho.row, vs, ho.mono hz⟩, hb'⟩
theorem tab_aut {P : Program} {f : FuncId} {args : Array Value} {l : List St} {a : List Int} {win : Int} (hG : G ≤ W.heap.size) (h : ∀ w, Below G W w → G ≤ w.heap.size → Calls P f args w fun e w' => (∃ lv av, e = .returned (atV lv av win) ∧ RdT w' w'.heap.size lv l ∧ RdI w' w'.heap.size av a) ∧ Below w.heap.size w w') :
    Calls P f args (grown G W x) fun e w'' => ∃ v, e = .returned v ∧ (∃ n, w'' = grown G W n) ∧ Below (grown G W x).heap.size (grown G W x) w'' ∧ (∃ lv av, v = atV lv av win) ∧ ∃ lv av, v = atV lv av win ∧ RdT w'' w''.heap.size lv l ∧ RdI w'' w''.heap.size av a := by
  refine tab_call (R := fun v w' => (∃ lv av, v = atV lv av win) ∧ ∃ lv av, v = atV lv av win ∧ RdT w' w'.heap.size lv l ∧ RdI w' w'.heap.size av a) hG fun w hb hz => (h w hb hz).mono fun e w' ⟨⟨lv, av, he, h1, h2⟩, hb'⟩ => ⟨⟨_, he, ⟨lv, av, rfl⟩, lv, av, rfl, h1, h2⟩, hb'⟩
end
theorem zau_of {w : World} {g : Nat} (h : ∃ g', (Value.slice (some ⟨g, 0, none⟩) 1 1) = .slice (some ⟨g', 0, none⟩) 1 1 ∧ Blk w g' 41 #[.int .i64 0, .int .i64 0, .bool false, .slice none 0 0, .int .i64 0, .bool false]) :
    ∃ g', (Value.agg #[.slice (some ⟨g, 0, none⟩) 1 1, .slice none 0 0, .int .i64 0]) = .agg #[.slice (some ⟨g', 0, none⟩) 1 1, .slice none 0 0, .int .i64 0] ∧ Blk w g' 41 #[.int .i64 0, .int .i64 0, .bool false, .slice none 0 0, .int .i64 0, .bool false] := by
  obtain ⟨g', e, h⟩ := h
  exact ⟨g', by rw [e], h⟩
theorem aut_rd {w : World} {l : List St} {a : List Int} {win : Int} {lv av : Value} (h : ∃ lv' av', atV lv av win = atV lv' av' win ∧ RdT w w.heap.size lv' l ∧ RdI w w.heap.size av' a) : RdT w w.heap.size lv l ∧ RdI w w.heap.size av a := by
  obtain ⟨lv', av', e, h1, h2⟩ := h
  simp only [atV, Value.agg.injEq, Array.mk.injEq, List.cons.injEq] at e
  obtain ⟨rfl, rfl, -⟩ := e
  exact ⟨h1, h2⟩
theorem ll_made {w : World} {G : Nat} {u v : Value} (hG : G ≤ w.heap.size) (hu : OwI w G u [0, 2]) (hv : OwI w G v [0, 2, 2]) :
    OwLL (w.alloc (.cells #[u, v] 28)) G (.slice (some ⟨w.heap.size, 0, none⟩) 2 2) [[0, 2], [0, 2, 2]] [u, v] := by
  refine ⟨own_of_blk (Blk.new w _ _) hG rfl (by decide), fun j r l e1 e2 => ?_⟩
  match j, e1, e2 with
  | 0, e1, e2 =>
    simp at e1 e2
    subst e1 e2
    exact hu.alloc _
  | 1, e1, e2 =>
    simp at e1 e2
    subst e1 e2
    exact hv.alloc _
  | j + 2, e1, e2 => simp at e1
theorem tw_same : nsameB twL [3] 9 twL [3] 9 = true := by decide
theorem tw_diff : nsameB twL [3] 9 [] [] 0 = false := by decide
theorem tw_small : Small twL := by
  intro s hs
  simp only [twL, List.mem_cons, List.not_mem_nil, or_false] at hs
  rcases hs with rfl | rfl | rfl <;> decide
theorem rds_empty (w : World) : RdS w w.heap.size (.slice none 0 0) [] := rds_nil w

/-- One state that no automaton may have. -/
theorem st_right (Ba : Nat) (w1 : World) (hb : ∃ g, (Value.agg #[.slice (some ⟨Ba, 0, none⟩) 1 1, .slice none 0 0, .int .i64 0]) = .agg #[.slice (some ⟨g, 0, none⟩) 1 1, .slice none 0 0, .int .i64 0] ∧ Blk w1 g 41 #[.int .i64 0, .int .i64 0, .bool false, .slice none 0 0, .int .i64 0, .bool false]) :
    Calls Tryz.prog 18 #[atV (.slice (some ⟨Ba, 0, none⟩) 1 1) (.slice none 0 0) 0] w1 fun e w' => e = .returned (.bool false) ∧ Below w1.heap.size w1 w' := by
  obtain ⟨g, eg, hb⟩ := hb
  obtain rfl : Ba = g := by simpa using eg
  have ho : OwS w1 0 (.slice (some ⟨Ba, 0, none⟩) 1 1) [(⟨0, 0, false, [], 0, false⟩, .slice none 0 0)] := own_of_blk hb (Nat.zero_le _) rfl (by decide)
  have hr := rdt_of_row ho (fun x hx => by rw [List.mem_singleton.1 hx]; exact (OwI.nil w1 0).rd)
  have := nright_any [⟨0, 0, false, [], 0, false⟩] _ (.slice none 0 0) 0 w1 hr ⟨_, _, _, rfl⟩ (by intro s hs; rw [List.mem_singleton.1 hs]; decide)
  rw [tw_zero] at this
  exact this

set_option maxRecDepth 100000 in
set_option maxHeartbeats 16000000 in
theorem wakes14_true (w : World) : Calls Tryz.prog 6 #[] w fun e w' => e = .returned (.bool true) ∧ Below w.heap.size w w' := by
  go_enter Tryz.func6, Tryz.ntmps6
  go_upto_region 3 with (first
    | (go_at_call 16; (with_reducible refine (twice_any _).mono ?_); rintro e w1 ⟨⟨v1, rfl, hrd1⟩, hB1⟩; obtain ⟨A1, c1, hv1⟩ := rd_form hrd1; subst hv1; replace hrd1 := hide hrd1; replace hB1 := hide hB1)
    | (go_at_call 7; (with_reducible refine (nnew_any twP 9 _ _ hrd1.out tw_may).mono ?_); rintro e w2 ⟨⟨lv, av, rfl, hrt, hra⟩, hB2⟩; rw [tw_new] at hrt; rw [tw_after] at hra; obtain ⟨Al, cl, hvl⟩ := rd_form hrt; obtain ⟨Aa, ca, hva⟩ := rd_form hra; subst hvl hva; replace hrt := hide hrt; replace hra := hide hra; replace hB2 := hide hB2)
    | (go_at_call 7; (with_reducible refine (nnew_not [] 0 _ _ (rds_empty _) tw_none).mono ?_); rintro e w4 ⟨rfl, hB4⟩; replace hB4 := hide hB4))
  go_upto_region 4 with (fail)
  obtain ⟨W3, hW3⟩ : ∃ W3, w4.alloc (.cells #[.slice none 0 0, .slice none 0 0, .int .i64 0] 30) = W3 := ⟨_, rfl⟩
  rw [hW3]
  obtain ⟨ba, hba⟩ : ∃ ba, w2.heap.size = ba := ⟨_, rfl⟩
  have bA4 : Blk w4 ba 30 #[.slice Al twL.length cl, .slice Aa 1 ca, .int .i64 9] := by rw [← hba]; exact (Blk.new_ (w := w2) rfl 30 #[.slice Al twL.length cl, .slice Aa 1 ca, .int .i64 9]).below hB4.out (by simp)
  have hB14 : Below w2.heap.size w2 w4 := ((Below.refl w2.heap.size w2).alloc (Nat.le_refl _) _).trans (hB4.out.mono (by simp))
  have hB43 : Below w4.heap.size w4 W3 := by rw [← hW3]; exact (Below.refl _ _).alloc (Nat.le_refl _) _
  have bA3 := bA4.below hB43 bA4.lt
  have hz4 := hB14.size
  have hz43 := hB43.size
  have hB23 := hB14.trans (hB43.mono hz4)
  have hw3 : Below w.heap.size w W3 := (hB1.out.trans (hB2.out.mono hB1.out.size)).trans (hB23.mono (Nat.le_trans hB1.out.size hB2.out.size))
  have hrt3 : RdT W3 W3.heap.size (.slice Al twL.length cl) twL := hrt.out.below hB23 hB23.size
  have hra3 : RdI W3 W3.heap.size (.slice Aa 1 ca) [3] := hra.out.below hB23 hB23.size
  rw [hba]
  obtain ⟨s3, hs0⟩ : ∃ s3, w4.heap.size + 1 = s3 := ⟨_, rfl⟩
  rw [hs0]
  have hs3 : W3.heap.size = s3 := by rw [← hW3, ← hs0]; simp
  obtain ⟨W5, hW5⟩ : ∃ W5, (((W3.alloc (.cells #[.int .i64 1] 3)).alloc (.cells (([(⟨0, 0, false, [], -1, false⟩, .slice none 0 0), (⟨2, 1, false, [1], 0, true⟩, .slice (some ⟨s3, 0, none⟩) 1 1), (⟨2, 2, false, [], 1, true⟩, .slice none 0 0)] : List (St × Value)).flatMap stc).toArray 41)).alloc (.cells #[.int .i64 3] 3)).alloc (.cells #[.slice (some ⟨s3 + 1, 0, none⟩) 3 3, .slice (some ⟨s3 + 1 + 1, 0, none⟩) 1 1, .int .i64 9] 30) = W5 := ⟨_, rfl⟩
  have n1 : Blk W5 s3 3 #[.int .i64 1] := by rw [← hW5]; exact (((Blk.new_ hs3.symm _ _).alloc _).alloc _).alloc _
  have n2 : Blk W5 (s3 + 1) 41 (([(⟨0, 0, false, [], -1, false⟩, .slice none 0 0), (⟨2, 1, false, [1], 0, true⟩, .slice (some ⟨s3, 0, none⟩) 1 1), (⟨2, 2, false, [], 1, true⟩, .slice none 0 0)] : List (St × Value)).flatMap stc).toArray := by rw [← hW5]; exact ((Blk.new_ (by simp [hs3]) _ _).alloc _).alloc _
  have n3 : Blk W5 (s3 + 1 + 1) 3 #[.int .i64 3] := by rw [← hW5]; exact (Blk.new_ (by simp [hs3]) _ _).alloc _
  have n4 : Blk W5 (s3 + 1 + 1 + 1) 30 #[.slice (some ⟨s3 + 1, 0, none⟩) 3 3, .slice (some ⟨s3 + 1 + 1, 0, none⟩) 1 1, .int .i64 9] := by rw [← hW5]; exact Blk.new_ (by simp [hs3]) _ _
  have hB35 : Below W3.heap.size W3 W5 := by rw [← hW5]; exact ((((Below.refl _ _).alloc (Nat.le_refl _) _).alloc (by simp) _).alloc (by simp; omega) _).alloc (by simp; omega) _
  have hcells : (([(⟨0, 0, false, [], -1, false⟩, .slice none 0 0), (⟨2, 1, false, [1], 0, true⟩, .slice (some ⟨s3, 0, none⟩) 1 1), (⟨2, 2, false, [], 1, true⟩, .slice none 0 0)] : List (St × Value)).flatMap stc).toArray = #[.int .i64 0, .int .i64 0, .bool false, .slice none 0 0, .int .i64 (-1), .bool false, .int .i64 2, .int .i64 1, .bool false, .slice (some ⟨s3, 0, none⟩) 1 1, .int .i64 0, .bool true, .int .i64 2, .int .i64 2, .bool false, .slice none 0 0, .int .i64 1, .bool true] := rfl
  rw [hcells] at hW5
  rw [hW5]
  have hz35 := hB35.size
  have hwt : RdT W5 W5.heap.size (.slice (some ⟨s3 + 1, 0, none⟩) 3 3) twL := by
    have ho : OwS W5 0 (.slice (some ⟨s3 + 1, 0, none⟩) 3 3) [(⟨0, 0, false, [], -1, false⟩, .slice none 0 0), (⟨2, 1, false, [1], 0, true⟩, .slice (some ⟨s3, 0, none⟩) 1 1), (⟨2, 2, false, [], 1, true⟩, .slice none 0 0)] := own_of_blk n2 (Nat.zero_le _) rfl (by decide)
    refine rdt_of_row ho ?_
    intro x hx
    simp only [List.mem_cons, List.not_mem_nil, or_false] at hx
    rcases hx with rfl | rfl | rfl
    · exact (OwI.nil W5 0).rd
    · exact OwI.rd (base := 0) (own_of_blk n1 (Nat.zero_le _) rfl (by decide))
    · exact (OwI.nil W5 0).rd
  have hwa : RdI W5 W5.heap.size (.slice (some ⟨s3 + 1 + 1, 0, none⟩) 1 1) [3] := OwI.rd (base := 0) (own_of_blk n3 (Nat.zero_le _) rfl (by decide))
  have hrt5 := RdT.below hrt3 hB35 hz35
  have hra5 := RdI.below hra3 hB35 hz35
  have bA5 := bA3.below hB35 bA3.lt
  have l1 : ba < W5.heap.size := bA5.lt
  have l4 := n4.lt
  have e0 := bA5.cell 0
  have e1 := bA5.cell 1
  have e2 := bA5.cell 2
  have d0 := n4.cell 0
  have d1 := n4.cell 1
  have d2 := n4.cell 2
  simp at e0 e1 e2 d0 d1 d2
  have hla : ∃ A n c, (Value.slice Aa 1 ca) = .slice A n c := ⟨_, _, _, rfl⟩
  have h1 := hide fun w1 (hb : Below W5.heap.size W5 w1) => rsame14_any twL twL [3] [3] 9 9 (.slice Al twL.length cl) (.slice Aa 1 ca) (.slice (some ⟨s3 + 1, 0, none⟩) 3 3) (.slice (some ⟨s3 + 1 + 1, 0, none⟩) 1 1) w1 (hrt5.below hb hb.size) (hra5.below hb hb.size) (hwt.below hb hb.size) (hwa.below hb hb.size)
  rw [tw_same] at h1
  have h2 := hide fun w1 (hb : Below W5.heap.size W5 w1) => nright_any twL (.slice Al twL.length cl) (.slice Aa 1 ca) 9 w1 (hrt5.below hb hb.size) hla tw_small
  rw [tw_right] at h2
  have h4 := hide fun w1 (hb : Below W5.heap.size W5 w1) => nrows_any twL (.slice Al twL.length cl) (.slice Aa 1 ca) 9 w1 (hrt5.below hb hb.size) hla tw_small (by decide)
  rw [tw_rows] at h4
  have h5 := hide fun w1 (hb : Below W5.heap.size W5 w1) => nrow_any twL (.slice Al twL.length cl) (.slice Aa 1 ca) 9 2 w1 (hrt5.below hb hb.size) hla tw_small (by decide)
  rw [tw_row2] at h5
  have h6 := hide fun w1 (hb : Below W5.heap.size W5 w1) => nrow_any twL (.slice Al twL.length cl) (.slice Aa 1 ca) 9 3 w1 (hrt5.below hb hb.size) hla tw_small (by decide)
  rw [tw_row3] at h6
  have h7 := hide fun w1 (hb : Below W5.heap.size W5 w1) => next_any twL (.slice Al twL.length cl) (.slice Aa 1 ca) 9 (-1) w1 (hrt5.below hb hb.size) hla tw_small (by decide)
  rw [tw_next0] at h7
  have h8 := hide fun w1 (hb : Below W5.heap.size W5 w1) => next_any twL (.slice Al twL.length cl) (.slice Aa 1 ca) 9 1 w1 (hrt5.below hb hb.size) hla tw_small (by decide)
  rw [tw_next1] at h8
  have h9 := hide fun w1 (hb : Below W5.heap.size W5 w1) => nown_any twL [3] 9 (.slice Al twL.length cl) (.slice Aa 1 ca) w1 (hrt5.below hb hb.size) (hra5.below hb hb.size) (by decide) (by decide) (by decide)
  have h10 := hide fun lv2 av2 w1 (hb : Below W5.heap.size W5 w1) (ht : RdT w1 w1.heap.size lv2 twL) (hi : RdI w1 w1.heap.size av2 [3]) => nsame_any twL twL [3] [3] 9 9 lv2 av2 (.slice Al twL.length cl) (.slice Aa 1 ca) w1 ht hi (hrt5.below hb hb.size) (hra5.below hb hb.size)
  rw [tw_same] at h10
  have h11 := hide fun w1 (hb : Below W5.heap.size W5 w1) => nsame_any twL [] [3] [] 9 0 (.slice Al twL.length cl) (.slice Aa 1 ca) (.slice none 0 0) (.slice none 0 0) w1 (hrt5.below hb hb.size) (hra5.below hb hb.size) (rdt_nil _) (OwI.nil w1 0).rd
  rw [tw_diff] at h11
  have hw5 := hide (hw3.trans (hB35.mono hw3.size))
  clear hrt hra hrt3 hra3 bA4 bA3 bA5 hrd1 hB1 hB2 hB4 hB14 hB43 hB23 hw3 hB35 hwt hwa hrt5 hra5 n1 n2 n3 n4 hW3 hW5 hz4 hz43 hz35 hla
  clear hcells
  refine wp_region_tab W5.heap.size (Nat.le_refl _) [(9, valF (.bool true)), (13, valF (.bool true)), (17, zstF), (18, zauF), (19, valF (.bool false)), (24, llF W5.heap.size [[0, 2], [0, 2, 2]]), (25, rowF W5.heap.size [0, 2]), (26, rowF W5.heap.size [0, 2, 2]), (27, llF W5.heap.size [[0, 2], [0, 2, 2]]), (28, valF (.bool true)), (32, rowF W5.heap.size [0, 2, 2]), (33, rowF W5.heap.size [0, 2, 2]), (34, valF (.bool true)), (38, rowF W5.heap.size []), (44, rowF W5.heap.size [0]), (45, rowF W5.heap.size [0]), (46, valF (.bool true)), (50, rowF W5.heap.size [2]), (51, rowF W5.heap.size [2]), (52, valF (.bool true)), (56, autF twL [3] 9), (58, valF (.bool true)), (63, valF (.bool false))]
    [(18, [17]), (19, [18]), (27, [25, 26]), (28, [24, 27]), (34, [32, 33]), (46, [44, 45]), (52, [50, 51]), (58, [56])] (by kernel_rfl) (by kernel_rfl) ?tabok ?_
  case tabok =>
    intro p hp
    simp only [List.mem_cons, List.not_mem_nil, or_false] at hp
    rcases hp with rfl | rfl | rfl | rfl | rfl | rfl | rfl | rfl | rfl | rfl | rfl | rfl | rfl | rfl | rfl | rfl | rfl | rfl | rfl | rfl | rfl | rfl | rfl <;> first | exact valF_ok _ | exact rowF_ok _ _ | exact zstF_ok | exact zauF_ok | exact llF_ok _ _ | exact autF_ok _ _ _
  repeat (refine wpRel_one rfl (fun K hK => ?_); go_simp; refine hK _ _ ?_; clear hK K)
  refine wpTab_eff (valF (.bool true)) rfl (fun K hK => ?_)
  go_simp
  refine ⟨fun n => tab_val (Nat.le_refl _) (fun w1 hb hz => h1.out w1 hb), ?_⟩
  refine hK _ _ ?_
  clear hK K
  repeat (refine wpRel_one rfl (fun K hK => ?_); go_simp; refine hK _ _ ?_; clear hK K)
  refine wpTab_eff (valF (.bool true)) rfl (fun K hK => ?_)
  go_simp
  refine ⟨fun n => tab_val (Nat.le_refl _) (fun w1 hb hz => h2.out w1 hb), ?_⟩
  refine hK _ _ ?_
  clear hK K
  repeat (refine wpRel_one rfl (fun K hK => ?_); go_simp; refine hK _ _ ?_; clear hK K)
  refine wpTab_eff (zstF) rfl (fun K hK => ?_)
  go_simp
  refine ⟨fun n => ⟨(tab_obj (Nat.le_refl _) _).1, (tab_obj (Nat.le_refl _) _).2, ⟨_, rfl⟩, _, rfl, Blk.new_ rfl _ _⟩, fun v17 hv => ?_⟩
  obtain ⟨g17, rfl⟩ := hv
  refine hK _ _ ?_
  clear hK K
  repeat (refine wpRel_one rfl (fun K hK => ?_); go_simp; refine hK _ _ ?_; clear hK K)
  refine wpTab_eff (zauF) rfl (fun K hK => ?_)
  go_simp
  refine ⟨fun n ho => ⟨⟨_, rfl⟩, Below.refl _ _, ⟨_, rfl⟩, zau_of ho⟩, fun v18 hv => ?_⟩
  obtain ⟨g18, rfl⟩ := hv
  refine hK _ _ ?_
  clear hK K
  repeat (refine wpRel_one rfl (fun K hK => ?_); go_simp; refine hK _ _ ?_; clear hK K)
  refine wpTab_eff (valF (.bool false)) rfl (fun K hK => ?_)
  go_simp
  refine ⟨fun n ho => tab_val_at (Nat.le_refl _) (st_right g18 _ ho), ?_⟩
  refine hK _ _ ?_
  clear hK K
  repeat (refine wpRel_one rfl (fun K hK => ?_); go_simp; refine hK _ _ ?_; clear hK K)
  refine wpTab_eff (llF W5.heap.size [[0, 2], [0, 2, 2]]) rfl (fun K hK => ?_)
  go_simp
  refine ⟨fun n => tab_ll (Nat.le_refl _) (fun w1 hb hz => h4.out w1 hb), fun v24 hv => ?_⟩
  clear hv
  refine hK _ _ ?_
  clear hK K
  repeat (refine wpRel_one rfl (fun K hK => ?_); go_simp; refine hK _ _ ?_; clear hK K)
  refine wpTab_eff (rowF W5.heap.size [0, 2]) rfl (fun K hK => ?_)
  go_simp
  refine ⟨fun n => tab_alloc (G := W5.heap.size) (W := W5) (x := n) (Nat.le_refl _) [0, 2] (by decide), fun v25 hv => ?_⟩
  obtain ⟨A25, k25, rfl⟩ := hv
  refine hK _ _ ?_
  clear hK K
  repeat (refine wpRel_one rfl (fun K hK => ?_); go_simp; refine hK _ _ ?_; clear hK K)
  refine wpTab_eff (rowF W5.heap.size [0, 2, 2]) rfl (fun K hK => ?_)
  go_simp
  refine ⟨fun n => tab_alloc (G := W5.heap.size) (W := W5) (x := n) (Nat.le_refl _) [0, 2, 2] (by decide), fun v26 hv => ?_⟩
  obtain ⟨A26, k26, rfl⟩ := hv
  refine hK _ _ ?_
  clear hK K
  repeat (refine wpRel_one rfl (fun K hK => ?_); go_simp; refine hK _ _ ?_; clear hK K)
  refine wpTab_eff (llF W5.heap.size [[0, 2], [0, 2, 2]]) rfl (fun K hK => ?_)
  go_simp
  refine ⟨fun n ho1 ho2 => ⟨(tab_obj (Nat.le_refl _) _).1, (tab_obj (Nat.le_refl _) _).2, ⟨_, _, rfl⟩, _, ll_made (grown_size _ _ _ (Nat.le_refl _)) ho2 ho1⟩, fun v27 hv => ?_⟩
  clear hv
  refine hK _ _ ?_
  clear hK K
  repeat (refine wpRel_one rfl (fun K hK => ?_); go_simp; refine hK _ _ ?_; clear hK K)
  refine wpTab_eff (valF (.bool true)) rfl (fun K hK => ?_)
  go_simp
  refine ⟨fun n ho1 ho2 => tab_val_at (Nat.le_refl _) (rowed_eq ho2 ho1), ?_⟩
  refine hK _ _ ?_
  clear hK K
  repeat (refine wpRel_one rfl (fun K hK => ?_); go_simp; refine hK _ _ ?_; clear hK K)
  refine wpTab_eff (rowF W5.heap.size [0, 2, 2]) rfl (fun K hK => ?_)
  go_simp
  refine ⟨fun n => tab_row (Nat.le_refl _) (fun w1 hb hz => h5.out w1 hb), fun v32 hv => ?_⟩
  clear hv
  refine hK _ _ ?_
  clear hK K
  repeat (refine wpRel_one rfl (fun K hK => ?_); go_simp; refine hK _ _ ?_; clear hK K)
  refine wpTab_eff (rowF W5.heap.size [0, 2, 2]) rfl (fun K hK => ?_)
  go_simp
  refine ⟨fun n => tab_alloc (G := W5.heap.size) (W := W5) (x := n) (Nat.le_refl _) [0, 2, 2] (by decide), fun v33 hv => ?_⟩
  clear hv
  refine hK _ _ ?_
  clear hK K
  repeat (refine wpRel_one rfl (fun K hK => ?_); go_simp; refine hK _ _ ?_; clear hK K)
  refine wpTab_eff (valF (.bool true)) rfl (fun K hK => ?_)
  go_simp
  refine ⟨fun n ho1 ho2 => tab_val_at (Nat.le_refl _) (ints_eq _ _ _ _ ho2.rd ho1.rd), ?_⟩
  refine hK _ _ ?_
  clear hK K
  repeat (refine wpRel_one rfl (fun K hK => ?_); go_simp; refine hK _ _ ?_; clear hK K)
  refine wpTab_eff (rowF W5.heap.size []) rfl (fun K hK => ?_)
  go_simp
  refine ⟨fun n => tab_row (Nat.le_refl _) (fun w1 hb hz => h6.out w1 hb), fun v38 hv => ?_⟩
  obtain ⟨A38, k38, rfl⟩ := hv
  refine hK _ _ ?_
  clear hK K
  repeat (refine wpRel_one rfl (fun K hK => ?_); go_simp; refine hK _ _ ?_; clear hK K)
  refine wpTab_eff (rowF W5.heap.size [0]) rfl (fun K hK => ?_)
  go_simp
  refine ⟨fun n => tab_row (Nat.le_refl _) (fun w1 hb hz => h7.out w1 hb), fun v44 hv => ?_⟩
  clear hv
  refine hK _ _ ?_
  clear hK K
  repeat (refine wpRel_one rfl (fun K hK => ?_); go_simp; refine hK _ _ ?_; clear hK K)
  refine wpTab_eff (rowF W5.heap.size [0]) rfl (fun K hK => ?_)
  go_simp
  refine ⟨fun n => tab_alloc (G := W5.heap.size) (W := W5) (x := n) (Nat.le_refl _) [0] (by decide), fun v45 hv => ?_⟩
  clear hv
  refine hK _ _ ?_
  clear hK K
  repeat (refine wpRel_one rfl (fun K hK => ?_); go_simp; refine hK _ _ ?_; clear hK K)
  refine wpTab_eff (valF (.bool true)) rfl (fun K hK => ?_)
  go_simp
  refine ⟨fun n ho1 ho2 => tab_val_at (Nat.le_refl _) (ints_eq _ _ _ _ ho2.rd ho1.rd), ?_⟩
  refine hK _ _ ?_
  clear hK K
  repeat (refine wpRel_one rfl (fun K hK => ?_); go_simp; refine hK _ _ ?_; clear hK K)
  refine wpTab_eff (rowF W5.heap.size [2]) rfl (fun K hK => ?_)
  go_simp
  refine ⟨fun n => tab_row (Nat.le_refl _) (fun w1 hb hz => h8.out w1 hb), fun v50 hv => ?_⟩
  clear hv
  refine hK _ _ ?_
  clear hK K
  repeat (refine wpRel_one rfl (fun K hK => ?_); go_simp; refine hK _ _ ?_; clear hK K)
  refine wpTab_eff (rowF W5.heap.size [2]) rfl (fun K hK => ?_)
  go_simp
  refine ⟨fun n => tab_alloc (G := W5.heap.size) (W := W5) (x := n) (Nat.le_refl _) [2] (by decide), fun v51 hv => ?_⟩
  clear hv
  refine hK _ _ ?_
  clear hK K
  repeat (refine wpRel_one rfl (fun K hK => ?_); go_simp; refine hK _ _ ?_; clear hK K)
  refine wpTab_eff (valF (.bool true)) rfl (fun K hK => ?_)
  go_simp
  refine ⟨fun n ho1 ho2 => tab_val_at (Nat.le_refl _) (ints_eq _ _ _ _ ho2.rd ho1.rd), ?_⟩
  refine hK _ _ ?_
  clear hK K
  repeat (refine wpRel_one rfl (fun K hK => ?_); go_simp; refine hK _ _ ?_; clear hK K)
  refine wpTab_eff (autF twL [3] 9) rfl (fun K hK => ?_)
  go_simp
  refine ⟨fun n => tab_aut (Nat.le_refl _) (fun w1 hb hz => h9.out w1 hb), fun v56 hv => ?_⟩
  obtain ⟨lv56, av56, rfl⟩ := hv
  refine hK _ _ ?_
  clear hK K
  repeat (refine wpRel_one rfl (fun K hK => ?_); go_simp; refine hK _ _ ?_; clear hK K)
  refine wpTab_eff (valF (.bool true)) rfl (fun K hK => ?_)
  go_simp
  refine ⟨fun n ho => tab_val_at (Nat.le_refl _) (h10.out lv56 av56 _ (grown_below _ _ _) (aut_rd ho).1 (aut_rd ho).2), ?_⟩
  refine hK _ _ ?_
  clear hK K
  repeat (refine wpRel_one rfl (fun K hK => ?_); go_simp; refine hK _ _ ?_; clear hK K)
  refine wpTab_eff (valF (.bool false)) rfl (fun K hK => ?_)
  go_simp
  refine ⟨fun n => tab_val (Nat.le_refl _) (fun w1 hb hz => h11.out w1 hb), ?_⟩
  refine hK _ _ ?_
  clear hK K
  repeat (refine wpRel_one rfl (fun K hK => ?_); go_simp; refine hK _ _ ?_; clear hK K)
  refine wpRel_nil ?_
  rintro w7 ⟨n7, rfl⟩ hΓ
  clear hΓ
  have hB7 := hide (grown_below W5.heap.size W5 n7)
  generalize grown W5.heap.size W5 n7 = w7 at *
  go_wp2
  go_ret
  exact ⟨rfl, hw5.out.trans (hB7.out.mono hw5.out.size)⟩
end Go.Proofs.YtmmbblfmhcegcaaGreat
