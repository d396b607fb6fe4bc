/- Several texts of one proof: The example pattern of two steps; what is told of a pattern that may not be: the walks of twice and of nfa.New at such. | The names that a step asks, as the reference puts them together: the walks of the reference's with and Asked. | The names that a step asks, as the reference puts them together: the walk of the reference's Asked. -/
import Derived.Test.YtmmbblfmhcegcaaGreatM21
import Derived.Test.YtmmbblfmhcegcaaGreatM22
import Derived.Test.YtmmbblfmhcegcaaGreatM06
import Derived.Test.YtmmbblfmhcegcaaGreatM04
import Derived.Deep.Cut

namespace Go.Proofs.YtmmbblfmhcegcaaGreat
open Go.RowKit Go.Shelf
attribute [local go_sem] Oper.semAt_some

def twP : List Sp := [⟨false, 0, 1, 1, false, []⟩, ⟨true, 1, 1, 1, false, []⟩, ⟨false, 2, 1, 2, false, []⟩, ⟨true, 3, 1, 1, false, []⟩]
def twL : List St := [⟨0, 0, false, [], -1, false⟩, ⟨2, 1, false, [1], 0, true⟩, ⟨2, 2, false, [], 1, true⟩]
theorem tw_may : mayB twP 9 = true := by decide +kernel
theorem tw_new : newL twP = twL := by decide +kernel
theorem tw_after : afterL twP = [3] := by decide +kernel
theorem tw_none : mayB [] 0 = false := by decide +kernel
theorem tw_right : autoR twL = true := by decide +kernel
theorem tw_rows : nrowsF twL = [[0, 2], [0, 2, 2]] := by decide +kernel
theorem tw_row2 : stRow twL 2 = [0, 2, 2] := by decide +kernel
theorem tw_row3 : stRow twL 3 = [] := by decide +kernel
theorem tw_next0 : nextF twL (-1) = [0] := by decide +kernel
theorem tw_next1 : nextF twL 1 = [2] := by decide +kernel
theorem tw_zero : autoR [⟨0, 0, false, [], 0, false⟩] = false := by decide +kernel

set_option maxRecDepth 100000 in
theorem twice_any (w : World) : Calls Tryz.prog 16 #[] w fun e w' => (∃ v, e = .returned (ptV v 9) ∧ RdS w' w'.heap.size v twP) ∧ Below w.heap.size w w' := by
  go_enter Tryz.func16, Tryz.ntmps16
  go_wp2
  have hg := Blk.new_ (w := w.alloc (.cells #[.slice (some ⟨w.heap.size + 1, 0, none⟩) 4 4, .int .i64 9] 24)) (by simp : w.heap.size + 1 = _) 45 (((([(⟨false, 0, 1, 1, false, []⟩, .slice none 0 0), (⟨true, 1, 1, 1, false, []⟩, .slice none 0 0), (⟨false, 2, 1, 2, false, []⟩, .slice none 0 0), (⟨true, 3, 1, 1, false, []⟩, .slice none 0 0)] : List (Sp × Value)).flatMap spc).toArray))
  have hp := (Blk.new w 24 #[.slice (some ⟨w.heap.size + 1, 0, none⟩) 4 4, .int .i64 9]).alloc (.cells ((([(⟨false, 0, 1, 1, false, []⟩, .slice none 0 0), (⟨true, 1, 1, 1, false, []⟩, .slice none 0 0), (⟨false, 2, 1, 2, false, []⟩, .slice none 0 0), (⟨true, 3, 1, 1, false, []⟩, .slice none 0 0)] : List (Sp × Value)).flatMap spc).toArray) 45)
  have hB := ((Below.refl w.heap.size w).alloc (Nat.le_refl _) (.cells #[.slice (some ⟨w.heap.size + 1, 0, none⟩) 4 4, .int .i64 9] 24)).alloc (by simp) (.cells ((([(⟨false, 0, 1, 1, false, []⟩, .slice none 0 0), (⟨true, 1, 1, 1, false, []⟩, .slice none 0 0), (⟨false, 2, 1, 2, false, []⟩, .slice none 0 0), (⟨true, 3, 1, 1, false, []⟩, .slice none 0 0)] : List (Sp × Value)).flatMap spc).toArray) 45)
  change bodyPost Tryz.prog Tryz.f16 _ Exit.ret _ ((w.alloc (.cells #[.slice (some ⟨w.heap.size + 1, 0, none⟩) 4 4, .int .i64 9] 24)).alloc (.cells ((([(⟨false, 0, 1, 1, false, []⟩, .slice none 0 0), (⟨true, 1, 1, 1, false, []⟩, .slice none 0 0), (⟨false, 2, 1, 2, false, []⟩, .slice none 0 0), (⟨true, 3, 1, 1, false, []⟩, .slice none 0 0)] : List (Sp × Value)).flatMap spc).toArray) 45))
  generalize (w.alloc _).alloc _ = X at *
  have q0 := hp.cell 0
  have q1 := hp.cell 1
  simp at q0 q1
  refine bodyPost_ret (v := ptV (.slice (some ⟨w.heap.size + 1, 0, none⟩) 4 4) 9) (by simp [results, Tryz.f16, go_sem, q0, q1]) rfl ⟨⟨_, rfl, ?_⟩, hB⟩
  have ho : OwR X 0 (.slice (some ⟨w.heap.size + 1, 0, none⟩) 4 4) [(⟨false, 0, 1, 1, false, []⟩, .slice none 0 0), (⟨true, 1, 1, 1, false, []⟩, .slice none 0 0), (⟨false, 2, 1, 2, false, []⟩, .slice none 0 0), (⟨true, 3, 1, 1, false, []⟩, .slice none 0 0)] := own_of_blk hg (Nat.zero_le _) rfl (by decide)
  refine rd_of_row ho ?_
  intro x hx
  simp only [List.mem_cons, List.not_mem_nil, or_false] at hx
  rcases hx with rfl | rfl | rfl | rfl <;> exact rdc_nil X

theorem rdt_nil (w : World) : RdT w w.heap.size (.slice none 0 0) [] := ⟨none, 0, 0, 0, rfl, Nat.le_refl _, by omega, fun h => absurd h (by simp), fun i x hx => by simp at hx⟩

set_option maxRecDepth 100000 in
set_option maxHeartbeats 4000000 in
/-- A pattern that may not be has no automaton. -/
theorem nnew_not (p : List Sp) (win : Int) (v : Value) (w : World) (h : RdS w w.heap.size v p) (hm : mayB p win = false) :
    Calls Tryz.prog 7 #[ptV v win] w fun e w' => e = .returned (.tuple #[atV (.slice none 0 0) (.slice none 0 0) 0, .int .i64 110]) ∧ Below w.heap.size w w' := by
  have hch := hide fun w1 (hb : Below w.heap.size w w1) => cright_any p win v w1 (h.below hb hb.size)
  rw [hm] at hch
  obtain ⟨A, cap, hv⟩ := rd_form h
  subst hv
  have hX := hide (((Below.refl w.heap.size w).alloc (Nat.le_refl _) (.cells #[.slice A p.length cap, .int .i64 win] 24)).alloc (by simp) (.cells #[.slice none 0 0, .slice none 0 0, .int .i64 0] 30))
  have bX2 := hide (Blk.new_ (w := w.alloc (.cells #[.slice A p.length cap, .int .i64 win] 24)) (by simp : w.heap.size + 1 = _) 30 #[.slice none 0 0, .slice none 0 0, .int .i64 0])
  refine (callsIn_wide (n := 3)).1 ?_
  refine callsIn_of_wp_marks Tryz.func7 rfl trivial ?_ rfl
  simp only [Tryz.ntmps7, List.size_toArray, List.length_cons, List.length_nil, Nat.reduceAdd, Nat.reduceSub, Array.replicate_succ, Array.replicate_zero, List.push_toArray, List.append_toArray, List.nil_append, List.cons_append]
  gi_wp2_with (refine ⟨trivial, ?_⟩; gi_at_call 22; (with_reducible refine (callsIn_wide.2 (stayf (G := w.heap.size + 2) (hch.out _ hX.out) (by simp))).mono ?_); rintro e w1 ⟨rfl, hc1, hf1, hz1, hB1⟩; have b2 := bX2.out.below hB1.out (by omega); have k0 := b2.cell 0; have k1 := b2.cell 1; have k2 := b2.cell 2; have g0 := b2.frozen 0; have g1 := b2.frozen 1; have g2 := b2.frozen 2; simp at k0 k1 k2)
  have hB2 : Below w.heap.size w w1 := hX.out.trans (hB1.out.mono (by omega))
  have hb2 := auto_stored b2 (.slice none 0 0) (.slice none 0 0) (.int .i64 0)
  have hB3 := ((hB2.setCell (p := ⟨w.heap.size + 1, 0, none⟩) (by simp) (.slice none 0 0)).setCell (p := ⟨w.heap.size + 1, 1, none⟩) (by simp) (.slice none 0 0)).setCell (p := ⟨w.heap.size + 1, 2, none⟩) (by simp) (.int .i64 0)
  generalize ((w1.setCell _ _).setCell _ _).setCell _ _ = W7 at *
  have q0 := hb2.cell 0
  have q1 := hb2.cell 1
  have q2 := hb2.cell 2
  simp at q0 q1 q2
  refine rf_ret_list (ds := []) (v := .tuple #[atV (.slice none 0 0) (.slice none 0 0) 0, .int .i64 110]) rfl (fun _ h => by simp at h) List.Pairwise.nil (fun W' hcells hbel => ?_)
  have hb8 : Blk W' (w.heap.size + 1) 30 #[.slice none 0 0, .slice none 0 0, .int .i64 0] := hcells _ _ hb2 rfl
  have u0 := hb8.cell 0
  have u1 := hb8.cell 1
  have u2 := hb8.cell 2
  simp at u0 u1 u2
  exact ⟨by simp [results, Tryz.f7, go_sem, u0, u1, u2], rfl, hB3.trans (hbel w.heap.size (fun _ h => by simp at h))⟩
end Go.Proofs.YtmmbblfmhcegcaaGreat

namespace Go.Proofs.YtmmbblfmhcegcaaGreat
open Go.RowKit

/-! ### plain: a rising row with one more -/
theorem ins_mem {n : Int} {l : List Int} (hr : Rise l) (h : n ∈ l) : ins n l = l := by
  induction l with
  | nil => simp at h
  | cons x l ih =>
    obtain ⟨h1, h2⟩ := List.pairwise_cons.1 hr
    simp only [ins]
    split
    · rfl
    · rename_i hne
      have hm : n ∈ l := by rcases List.mem_cons.1 h with e | e; exact absurd e.symm hne; exact e
      have := h1 n hm
      rw [if_neg (by omega), ih h2 hm]
theorem ins_end {n : Int} {l : List Int} (h : ∀ y ∈ l, y < n) : ins n l = l ++ [n] := by
  induction l with
  | nil => rfl
  | cons x l ih =>
    have h1 := h x (by simp)
    simp only [ins]
    rw [if_neg (by omega), if_neg (by omega), ih (fun y hy => h y (by simp [hy])), List.cons_append]
theorem ins_mid {n x : Int} {l : List Int} (h : ∀ y ∈ l, y < n) (hx : n < x) : ins n (l ++ [x]) = l ++ [n] ++ [x] := by
  induction l with
  | nil => simp only [List.nil_append, ins]; rw [if_neg (by omega), if_pos hx]; rfl
  | cons y l ih =>
    have h1 := h y (by simp)
    simp only [ins, List.cons_append]
    rw [if_neg (by omega), if_neg (by omega), ih (fun y hy => h y (by simp [hy]))]
theorem ins_big {n x : Int} {l : List Int} (h : (l.any fun y => decide (n < y)) = true) (hn : ∀ y ∈ l, y ≠ n) : ins n (l ++ [x]) = ins n l ++ [x] := by
  induction l with
  | nil => simp at h
  | cons y l ih =>
    have h1 := hn y (by simp)
    simp only [ins, List.cons_append]
    rw [if_neg h1, if_neg h1]
    split
    · rfl
    · rename_i hge
      rw [ih (by simp only [List.any_cons, Bool.or_eq_true, decide_eq_true_eq] at h; exact h.resolve_left hge) (fun y hy => hn y (by simp [hy]))]
      rfl
/-- What the loop has put together of the first k. -/
def withB (n : Int) (l : List Int) : Bool := l.any fun y => decide (n < y)
def withL (n : Int) (l : List Int) : List Int := if withB n l then ins n l else l
theorem with_snoc {n : Int} {l : List Int} (hr : Rise l) {k : Nat} {x : Int} (hx : l[k]? = some x) (hno : ∀ y ∈ l.take k, y ≠ n) :
    (x ≠ n → withB n (l.take (k + 1)) = (withB n (l.take k) || decide (n < x)) ∧ (∀ y ∈ l.take (k + 1), y ≠ n)) ∧
    (n < x → withB n (l.take k) = false → withL n (l.take (k + 1)) = withL n (l.take k) ++ [n] ++ [x]) ∧
    (n < x → withB n (l.take k) = true → withL n (l.take (k + 1)) = withL n (l.take k) ++ [x]) ∧
    (x < n → withB n (l.take k) = false ∧ withL n (l.take (k + 1)) = withL n (l.take k) ++ [x]) := by
  have ht : l.take (k + 1) = l.take k ++ [x] := by simp [List.take_add_one, hx]
  have hlt : ∀ y ∈ l.take k, y < x := by
    intro y hy
    obtain ⟨j, hj, rfl⟩ := List.mem_iff_getElem.1 hy
    have hk := (List.getElem?_eq_some_iff.1 hx)
    obtain ⟨hk1, rfl⟩ := hk
    have hjk : j < k := by simp at hj; omega
    have := List.pairwise_iff_getElem.1 hr j k (by omega) hk1 hjk
    simpa using this
  have hb : withB n (l.take (k + 1)) = (withB n (l.take k) || decide (n < x)) := by simp [withB, ht, List.any_append]
  refine ⟨fun hne => ⟨hb, fun y hy => ?_⟩, fun h1 h2 => ?_, fun h1 h2 => ?_, fun h1 => ?_⟩
  · rw [ht] at hy
    rcases List.mem_append.1 hy with h | h
    · exact hno y h
    · rw [List.mem_singleton.1 h]; exact hne
  · have hall : ∀ y ∈ l.take k, y < n := fun y hy => by
      have h3 : ¬ (n < y) := by
        intro h4
        have : withB n (l.take k) = true := by rw [withB, List.any_eq_true]; exact ⟨y, hy, by simpa using h4⟩
        rw [h2] at this; cases this
      have := hno y hy
      omega
    have hb' : withB n (l.take (k + 1)) = true := by rw [hb]; simp [h1]
    simp only [withL]
    rw [hb', h2, ht, if_pos rfl, if_neg (by simp)]
    exact ins_mid hall h1
  · have hb' : withB n (l.take (k + 1)) = true := by rw [hb]; simp [h1]
    simp only [withL]
    rw [hb', h2, ht, if_pos rfl, if_pos rfl]
    exact ins_big h2 hno
  · have h2 : withB n (l.take k) = false := by
      rw [withB, List.any_eq_false]
      intro y hy
      have := hlt y hy
      simp
      omega
    have hb' : withB n (l.take (k + 1)) = false := by rw [hb, h2]; simp; omega
    refine ⟨h2, ?_⟩
    simp only [withL]
    rw [hb', h2, ht, if_neg (by simp), if_neg (by simp)]
theorem with_end {n : Int} {l : List Int} (hno : ∀ y ∈ l, y ≠ n) : (withB n l = true → withL n l = ins n l) ∧ (withB n l = false → withL n l ++ [n] = ins n l) := by
  refine ⟨fun h => by simp [withL, h], fun h => ?_⟩
  rw [ins_end (fun y hy => ?_)]
  · simp [withL, h]
  · have : ¬ (n < y) := by
      intro h4
      have : withB n l = true := by rw [withB, List.any_eq_true]; exact ⟨y, hy, by simpa using h4⟩
      rw [h] at this; cases this
    have := hno y hy
    omega
theorem with_len (n : Int) (l : List Int) : (withL n l).length ≤ l.length + 1 := by
  have key : ∀ l : List Int, (ins n l).length ≤ l.length + 1 := by
    intro l
    induction l with
    | nil => simp [ins]
    | cons x l ih =>
      simp only [ins]
      split
      · simp
      · split
        · simp
        · simp only [List.length_cons]; omega
  unfold withL
  split
  · exact key l
  · omega

set_option maxRecDepth 100000 in
set_option maxHeartbeats 2000000 in
theorem with_any (l : List Int) (n : Int) (v : Value) (base : Nat) (w : World) (h : OwI w base v l) (hr : Rise l) (hlen : l.length ≤ 100000) (hbase : base ≤ w.heap.size) :
    Calls Tryz.prog 92 #[v, .int .i64 n] w fun e w' => (∃ v', e = .returned v' ∧ OwI w' base v' (ins n l)) ∧ Below w.heap.size w w' := by
  have hrd := h.rd
  have hoh := hide h
  obtain ⟨A, cap, b, off, rfl, h2, h3, h4, h5⟩ := hrd
  clear h
  go_enter Tryz.func92, Tryz.ntmps92
  go_wp2
  go_loopw [5, 6, 7] (fun o q i wr => ∃ k : Nat, k ≤ l.length ∧ i = .int .i64 k ∧ OwI wr w.heap.size o (withL n (l.take k)) ∧ q = .bool (withB n (l.take k)) ∧ Hid (∀ y ∈ l.take k, y ≠ n) ∧ Below w.heap.size w wr) (fun _ _ i _ => l.length - (intOf i).toNat)
  case atStart => exact ⟨0, by omega, rfl, OwI.nil _ _, rfl, hide (by simp), Below.refl _ _⟩
  case round =>
    obtain ⟨k, hk, rfl, hown, rfl, hno, hB⟩ := hrel
    have hz := hB.size
    by_cases hlt : k < l.length
    · obtain ⟨rfl, hb⟩ := h4 (by omega)
      have hx := List.getElem?_eq_getElem hlt
      obtain ⟨vs, rfl, hat⟩ := h5 k l[k] hx
      have c0 := (hat.below hB hb).c1
      simp only [Nat.mul_one] at c0
      have hsn := hide (with_snoc hr hx hno.out)
      have hwl := with_len n (l.take k)
      have htl : (l.take k).length ≤ k := List.length_take_le _ _
      have hmem : Hid (l[k] = n → ins n l = l) := hide fun e => ins_mem hr (e ▸ List.getElem_mem hlt)
      clear hat h5 hx hno
      generalize l[k] = x at *
      generalize withL n (l.take k) = o at *
      rcases Int.lt_trichotomy x n with hc | hc | hc
      · obtain ⟨e1, e2⟩ := hsn.out.2.2.2 hc
        obtain ⟨e3, e4⟩ := hsn.out.1 (by omega)
        replace e2 := hide e2
        replace e3 := hide e3
        replace e4 := hide e4
        have d1 : (x == n) = false := by simp; omega
        rw [e1]
        clear hsn hmem
        go_wp2_with (at_builtin; refine app1 (.tmp 35) (.tmp 40) rfl rfl rfl rfl (hown.alloc _) (by simp; rfl) (by omega) (by simp; omega) ?_; intro v1 w1 hown1 hg1)
        refine ⟨⟨k + 1, by omega, rfl, by rw [e2.out]; exact hown1, by rw [e3.out, e1]; simp; omega, e4, ?_⟩, by simp [intOf]; omega⟩
        exact (hB.alloc hz _).grown hg1 (by simp; omega) (fun j e => by have := (hown.lt j e).1; omega)
      · have e1 := hide (hmem.out hc)
        subst hc
        clear hsn hmem
        go_wp2
        go_ret
        exact ⟨⟨_, rfl, by rw [e1.out]; exact hoh.out.below hB (Nat.le_refl _)⟩, hB⟩
      · obtain ⟨e3, e4⟩ := hsn.out.1 (by omega)
        replace e3 := hide e3
        replace e4 := hide e4
        have d1 : (x == n) = false := by simp; omega
        cases hq : withB n (l.take k) with
        | true =>
          have e2 := hide (hsn.out.2.2.1 hc hq)
          rw [hq] at e3
          clear hsn hmem hq
          go_wp2_with (at_builtin; refine app1 (.tmp 35) (.tmp 40) rfl rfl rfl rfl (hown.alloc _) (by simp; rfl) (by omega) (by simp; omega) ?_; intro v1 w1 hown1 hg1)
          refine ⟨⟨k + 1, by omega, rfl, by rw [e2.out]; exact hown1, by rw [e3.out]; rfl, e4, ?_⟩, by simp [intOf]; omega⟩
          exact (hB.alloc hz _).grown hg1 (by simp; omega) (fun j e => by have := (hown.lt j e).1; omega)
        | false =>
          have e2 := hide (hsn.out.2.1 hc hq)
          rw [hq] at e3
          clear hsn hmem hq
          go_wp2_with (at_builtin; first
            | (refine app1 (.tmp 31) (.tmp 33) rfl rfl rfl rfl (hown.alloc _) (by simp; rfl) (by omega) (by simp; omega) ?_; intro v1 w1 hown1 hg1; have hB1 := hide ((hB.alloc hz _).grown hg1 (by simp; omega) (fun j e => by have := (hown.lt j e).1; omega)); have hc1 : w1.cell? ⟨b, off + k, none⟩ = some (.int .i64 x) := (by rw [← c0, hB1.out.cell (p := ⟨b, off + k, none⟩) hb, hB.cell (p := ⟨b, off + k, none⟩) hb]); have hz1 := hB1.out.size; have hl1 : (o ++ [n]).length ≤ k + 2 := (by simp; omega); replace hg1 := hide hg1; replace hown1 := hide hown1)
            | (refine app1 (.tmp 35) (.tmp 40) rfl rfl rfl rfl (hown1.out.alloc _) (by simp; rfl) (by omega) (by simp; omega) ?_; intro v2 w2 hown2 hg2))
          refine ⟨⟨k + 1, by omega, rfl, by rw [e2.out]; exact hown2, by rw [e3.out]; simpa using hc, e4, ?_⟩, by simp [intOf]; omega⟩
          exact (hB1.out.alloc hz1 _).grown hg2 (by simp; omega) (fun j e => by have := (hown1.out.lt j e).1; omega)
    · obtain rfl : k = l.length := by omega
      rw [List.take_of_length_le (Nat.le_refl _)] at *
      have hen := hide (with_end hno.out)
      have hwl := with_len n l
      clear h5 h4
      cases hq : withB n l with
      | true =>
        have e1 := hide (hen.out.1 hq)
        clear hen hq
        go_wp2
        go_ret
        exact ⟨⟨_, rfl, by rw [← e1.out]; exact hown.mono hbase⟩, hB⟩
      | false =>
        have e1 := hide (hen.out.2 hq)
        clear hen hq
        go_wp2_with (at_builtin; refine app1 (.tmp 44) (.tmp 46) rfl rfl rfl rfl (hown.alloc _) (by simp; rfl) (by omega) (by simp; omega) ?_; intro v1 w1 hown1 hg1)
        go_ret
        refine ⟨⟨_, rfl, by rw [← e1.out]; exact hown1.mono hbase⟩, ?_⟩
        exact (hB.alloc hz _).grown hg1 (by simp; omega) (fun j e => by have := (hown.lt j e).1; omega)
end Go.Proofs.YtmmbblfmhcegcaaGreat

namespace Go.Proofs.YtmmbblfmhcegcaaGreat
open Go.RowKit
attribute [local go_sem] relVal relEff dTwo grown_cell grown_frozen

def insAll (a l : List Int) : List Int := l.foldl (fun l n => ins n l) a
theorem asked_snoc {cs : List Cm} {k : Nat} {c : Cm} (h : cs[k]? = some c) : asked (cs.take (k + 1)) = insAll (asked (cs.take k)) (c.l.names ++ c.r.names) := by
  simp only [asked, allNames, List.take_add_one, h, Option.toList_some, List.flatMap_append, List.flatMap_cons, List.flatMap_nil, List.append_nil, List.foldl_append, insAll, Cm.names]
theorem insAll_snoc {a l : List Int} {k : Nat} {x : Int} (h : l[k]? = some x) : insAll a (l.take (k + 1)) = ins x (insAll a (l.take k)) := by
  simp [insAll, List.take_add_one, h, List.foldl_append]
theorem insAll_rise {a l : List Int} (h : Rise a) : Rise (insAll a l) := (fold_ins l a h).1
theorem ins_len (n : Int) (l : List Int) : (ins n l).length ≤ l.length + 1 := by
  induction l with
  | nil => simp [ins]
  | cons x l ih =>
    simp only [ins]
    split
    · simp
    · split
      · simp
      · simp only [List.length_cons]; omega
theorem insAll_len (l a : List Int) : (insAll a l).length ≤ a.length + l.length := by
  induction l generalizing a with
  | nil => simp [insAll]
  | cons x l ih =>
    have h1 := ih (ins x a)
    have h2 := ins_len x a
    simp only [insAll, List.foldl_cons, List.length_cons] at *
    omega
theorem tnames_len (t : Tm) : t.names.length ≤ 2 := by unfold Tm.names; split <;> (try split) <;> simp
theorem asked_len (cs : List Cm) (k : Nat) : (asked (cs.take k)).length ≤ 4 * k := by
  have key : ∀ l : List Cm, (allNames l).length ≤ 4 * l.length := by
    intro l
    induction l with
    | nil => simp [allNames]
    | cons c l ih =>
      have h1 := tnames_len c.l
      have h2 := tnames_len c.r
      simp only [allNames, List.flatMap_cons, Cm.names, List.length_append, List.length_cons] at ih ⊢
      omega
  have h1 := key (cs.take k)
  have h2 : (cs.take k).length ≤ k := List.length_take_le _ _
  have h3 := insAll_len (allNames (cs.take k)) []
  have h4 : insAll [] (allNames (cs.take k)) = asked (cs.take k) := rfl
  rw [h4] at h3
  simp at h3
  omega

set_option maxRecDepth 100000 in
set_option maxHeartbeats 4000000 in
theorem rasked_any (s : Sp) (cv : Value) (w : World) (h : RdC w w.heap.size cv s.cmps) (hlen : s.cmps.length ≤ 1000) :
    Calls Tryz.prog 86 #[spV s cv] w fun e w' => (∃ v, e = .returned v ∧ OwI w' w.heap.size v (asked s.cmps)) ∧ Below w.heap.size w w' := by
  obtain ⟨neg, kind, mn, mx, strict, cmps⟩ := s
  simp only at h hlen
  obtain ⟨A, cap, b, off, rfl, h2, h3, h4, h5⟩ := h
  go_enter Tryz.func86, Tryz.ntmps86
  go_wp2
  go_loopw [3, 4] (fun o i wr => ∃ k : Nat, k ≤ cmps.length ∧ i = .int .i64 k ∧ OwI wr w.heap.size o (asked (cmps.take k)) ∧ Below w.heap.size w wr ∧ wr.cell? ⟨w.heap.size, 5, none⟩ = some (.slice A cmps.length cap) ∧ w.heap.size < wr.heap.size) (fun _ i _ => cmps.length - (intOf i).toNat)
  case atStart => exact ⟨0, by omega, rfl, OwI.nil _ _, (Below.refl _ _).alloc (Nat.le_refl _) _, by simp, by simp⟩
  case round =>
    obtain ⟨k, hk, rfl, hown, hB, hbx, hz⟩ := hrel
    by_cases hlt : k < cmps.length
    · obtain ⟨rfl, hb⟩ := h4 (by omega)
      have hx := List.getElem?_eq_getElem hlt
      obtain ⟨vs, ⟨rfl, -⟩, hat⟩ := h5 k cmps[k] hx
      obtain ⟨c0, c1, c2, c3, c4, c5, c6, c7, c8⟩ := (hat.below hB hb).c9
      have hsn := hide (asked_snoc hx)
      have hal := asked_len cmps k
      have hri : Hid (Rise (asked (cmps.take k))) := hide (asked_rise _)
      have hb2 : b < wr.heap.size := by omega
      clear hat h5 hx h4
      generalize cmps[k] = c at *
      generalize asked (cmps.take k) = L at *
      obtain ⟨op, l, r⟩ := c
      simp only at c0 c1 c2 c3 c4 c5 c6 c7 c8 hsn
      have hnl := tnames_len l
      have hnr := tnames_len r
      go_upto_region 5 with (fail)
      refine wp_region_two l.names r.names 6 13 14 (by kernel_rfl) (by kernel_rfl) ?_
      repeat (refine wpRel_one rfl (fun K hK => ?_); go_simp; refine hK _ _ ?_; clear hK K)
      refine wpRel_eff (R := (FullV l.names, fun _ v w => OwF w wr.heap.size v l.names)) rfl (fun K hK => ?_)
      go_simp
      refine ⟨fun n => calls_two l (Nat.le_refl _), fun v1 hv1 => ?_⟩
      refine hK _ _ ?_
      clear hK K
      refine wpRel_one rfl (fun K hK => ?_)
      go_simp
      refine hK _ _ ?_
      clear hK K
      repeat (refine wpRel_one rfl (fun K hK => ?_); go_simp; refine hK _ _ ?_; clear hK K)
      refine wpRel_eff (R := (FullV r.names, fun _ v w => OwF w wr.heap.size v r.names)) rfl (fun K hK => ?_)
      go_simp
      refine ⟨fun n => calls_two r (Nat.le_refl _), fun v2 hv2 => ?_⟩
      refine hK _ _ ?_
      clear hK K
      refine wpRel_app_two (v1 := v1) (v2 := v2) (.tmp 20) (.tmp 27) (Nat.le_refl _) rfl rfl rfl rfl (by omega) (by decide) (by decide) (List.Mem.tail _ (List.Mem.head _)) (List.Mem.head _) (fun v3 => ?_)
      refine wpRel_one rfl (fun K hK => ?_)
      go_simp
      refine hK _ _ ?_
      clear hK K
      refine wpRel_nil ?_
      rintro w7 ⟨n7, rfl⟩ hΓ
      have hall : OwI (grown wr.heap.size wr n7) wr.heap.size v3 (l.names ++ r.names) := hΓ _ (List.mem_cons_self ..)
      have hB7 := grown_below wr.heap.size wr n7
      have hz7 := grown_size wr.heap.size wr n7 (Nat.le_refl _)
      clear hΓ hv1 hv2 c0 c1 c2 c3 c4 c5 c6 c7 c8
      generalize hns : l.names ++ r.names = ns at *
      have hnl : ns.length ≤ 4 := by rw [← hns]; simp only [List.length_append]; omega
      clear hns
      have hown7 := hown.below hB7 (Nat.le_refl _)
      have hB0 := hB.trans (hB7.mono (by omega))
      have hbx7 := (hB7.cell (p := ⟨w.heap.size, 5, none⟩) hz).trans hbx
      generalize grown wr.heap.size wr n7 = V at *
      have hz8 : w.heap.size < V.heap.size := by omega
      have hrd := hall.rd
      obtain ⟨A2, k2, b2, off2, e2, g2, g3, g4, g5⟩ := hrd
      subst e2
      clear hown hB hB7 hbx hall
      go_wp2
      go_loopw [3, 6] (fun o j wq => ∃ m : Nat, m ≤ ns.length ∧ j = .int .i64 m ∧ OwI wq w.heap.size o (insAll L (ns.take m)) ∧ Below V.heap.size V wq) (fun _ j _ => ns.length - (intOf j).toNat)
      case atStart => exact ⟨0, by omega, rfl, by simpa [insAll] using hown7, Below.refl _ _⟩
      case round =>
        obtain ⟨m, hm, rfl, hown9, hB9⟩ := hrel
        by_cases hlm : m < ns.length
        · obtain ⟨rfl, hb3⟩ := g4 (by omega)
          have hy := List.getElem?_eq_getElem hlm
          obtain ⟨us, rfl, hat2⟩ := g5 m ns[m] hy
          have d0 := (hat2.below hB9 hb3).c1
          simp only [Nat.mul_one] at d0
          have hs2 := hide (insAll_snoc (a := L) hy)
          have hin := insAll_len (ns.take m) L
          have htl : (ns.take m).length ≤ m := List.length_take_le _ _
          have hr2 := insAll_rise (l := ns.take m) hri.out
          clear hat2 g5 hy
          have hcall := hide (fun n w1 (hb : Below wr.heap.size wr w1) => with_any (insAll L (ns.take m)) n _ w.heap.size w1 (hown9.below hb (Nat.le_refl _)) hr2 (by omega) (Nat.le_trans (Nat.le_of_lt hz8) (Nat.le_trans hB9.size hb.size)))
          have hz9 := hB9.size
          clear hr2
          generalize insAll L (ns.take m) = L2 at *
          generalize ns[m] = x at *
          go_wp2_with (go_at_call 92; (with_reducible refine (hcall.out _ _ (Below.refl _ _)).mono ?_); rintro e w1 ⟨⟨v4, rfl, ho4⟩, hB4⟩)
          exact ⟨⟨m + 1, by omega, rfl, by rw [hs2.out]; exact ho4, hB9.trans (hB4.mono hz9)⟩, by simp [intOf]; omega⟩
        · obtain rfl : m = ns.length := by omega
          rw [List.take_of_length_le (Nat.le_refl _)] at hown9
          clear g4 g5
          go_wp2
          refine ⟨⟨k + 1, by omega, rfl, by rw [hsn.out]; exact hown9, hB0.trans (hB9.mono (Nat.le_of_lt hz8)), ?_, by have := hB9.size; omega⟩, by simp [intOf]; omega⟩
          exact (hB9.cell (p := ⟨w.heap.size, 5, none⟩) hz8).trans hbx7
    · obtain rfl : k = cmps.length := by omega
      rw [List.take_of_length_le (Nat.le_refl _)] at hown
      clear h4 h5
      go_wp2
      go_ret
      exact ⟨⟨_, rfl, hown⟩, hB⟩
end Go.Proofs.YtmmbblfmhcegcaaGreat
