/- The names that a step asks, as the reference puts them together: the walks of the reference's with and Asked. -/
import Derived.Test.YtidddeobachjgaaLibN
import Derived.Test.YtidddeobachjgaaPlS
import Derived.Deep.Cut
namespace Go.Proofs.Ytidddeobachjgaa
open Go.RowKit

/-! ### plain: a rising row with one more -/
theorem ins_mem {n : Int} {l : List Int} (hr : Rise l) (h : n ∈ l) : ins n l = l := by
  induction l with
  | nil => simp at h
  | cons x l ih =>
    obtain ⟨h1, h2⟩ := List.pairwise_cons.1 hr
    simp only [ins]
    split
    · rfl
    · rename_i hne
      have hm : n ∈ l := by rcases List.mem_cons.1 h with e | e; exact absurd e.symm hne; exact e
      have := h1 n hm
      rw [if_neg (by omega), ih h2 hm]
theorem ins_end {n : Int} {l : List Int} (h : ∀ y ∈ l, y < n) : ins n l = l ++ [n] := by
  induction l with
  | nil => rfl
  | cons x l ih =>
    have h1 := h x (by simp)
    simp only [ins]
    rw [if_neg (by omega), if_neg (by omega), ih (fun y hy => h y (by simp [hy])), List.cons_append]
theorem ins_mid {n x : Int} {l : List Int} (h : ∀ y ∈ l, y < n) (hx : n < x) : ins n (l ++ [x]) = l ++ [n] ++ [x] := by
  induction l with
  | nil => simp only [List.nil_append, ins]; rw [if_neg (by omega), if_pos hx]; rfl
  | cons y l ih =>
    have h1 := h y (by simp)
    simp only [ins, List.cons_append]
    rw [if_neg (by omega), if_neg (by omega), ih (fun y hy => h y (by simp [hy]))]
theorem ins_big {n x : Int} {l : List Int} (h : (l.any fun y => decide (n < y)) = true) (hn : ∀ y ∈ l, y ≠ n) : ins n (l ++ [x]) = ins n l ++ [x] := by
  induction l with
  | nil => simp at h
  | cons y l ih =>
    have h1 := hn y (by simp)
    simp only [ins, List.cons_append]
    rw [if_neg h1, if_neg h1]
    split
    · rfl
    · rename_i hge
      rw [ih (by simp only [List.any_cons, Bool.or_eq_true, decide_eq_true_eq] at h; exact h.resolve_left hge) (fun y hy => hn y (by simp [hy]))]
      rfl
/-- What the loop has put together of the first k. -/
def withB (n : Int) (l : List Int) : Bool := l.any fun y => decide (n < y)
def withL (n : Int) (l : List Int) : List Int := if withB n l then ins n l else l
theorem with_snoc {n : Int} {l : List Int} (hr : Rise l) {k : Nat} {x : Int} (hx : l[k]? = some x) (hno : ∀ y ∈ l.take k, y ≠ n) :
    (x ≠ n → withB n (l.take (k + 1)) = (withB n (l.take k) || decide (n < x)) ∧ (∀ y ∈ l.take (k + 1), y ≠ n)) ∧
    (n < x → withB n (l.take k) = false → withL n (l.take (k + 1)) = withL n (l.take k) ++ [n] ++ [x]) ∧
    (n < x → withB n (l.take k) = true → withL n (l.take (k + 1)) = withL n (l.take k) ++ [x]) ∧
    (x < n → withB n (l.take k) = false ∧ withL n (l.take (k + 1)) = withL n (l.take k) ++ [x]) := by
  have ht : l.take (k + 1) = l.take k ++ [x] := by simp [List.take_add_one, hx]
  have hlt : ∀ y ∈ l.take k, y < x := by
    intro y hy
    obtain ⟨j, hj, rfl⟩ := List.mem_iff_getElem.1 hy
    have hk := (List.getElem?_eq_some_iff.1 hx)
    obtain ⟨hk1, rfl⟩ := hk
    have hjk : j < k := by simp at hj; omega
    have := List.pairwise_iff_getElem.1 hr j k (by omega) hk1 hjk
    simpa using this
  have hb : withB n (l.take (k + 1)) = (withB n (l.take k) || decide (n < x)) := by simp [withB, ht, List.any_append]
  refine ⟨fun hne => ⟨hb, fun y hy => ?_⟩, fun h1 h2 => ?_, fun h1 h2 => ?_, fun h1 => ?_⟩
  · rw [ht] at hy
    rcases List.mem_append.1 hy with h | h
    · exact hno y h
    · rw [List.mem_singleton.1 h]; exact hne
  · have hall : ∀ y ∈ l.take k, y < n := fun y hy => by
      have h3 : ¬ (n < y) := by
        intro h4
        have : withB n (l.take k) = true := by rw [withB, List.any_eq_true]; exact ⟨y, hy, by simpa using h4⟩
        rw [h2] at this; cases this
      have := hno y hy
      omega
    have hb' : withB n (l.take (k + 1)) = true := by rw [hb]; simp [h1]
    simp only [withL]
    rw [hb', h2, ht, if_pos rfl, if_neg (by simp)]
    exact ins_mid hall h1
  · have hb' : withB n (l.take (k + 1)) = true := by rw [hb]; simp [h1]
    simp only [withL]
    rw [hb', h2, ht, if_pos rfl, if_pos rfl]
    exact ins_big h2 hno
  · have h2 : withB n (l.take k) = false := by
      rw [withB, List.any_eq_false]
      intro y hy
      have := hlt y hy
      simp
      omega
    have hb' : withB n (l.take (k + 1)) = false := by rw [hb, h2]; simp; omega
    refine ⟨h2, ?_⟩
    simp only [withL]
    rw [hb', h2, ht, if_neg (by simp), if_neg (by simp)]
theorem with_end {n : Int} {l : List Int} (hno : ∀ y ∈ l, y ≠ n) : (withB n l = true → withL n l = ins n l) ∧ (withB n l = false → withL n l ++ [n] = ins n l) := by
  refine ⟨fun h => by simp [withL, h], fun h => ?_⟩
  rw [ins_end (fun y hy => ?_)]
  · simp [withL, h]
  · have : ¬ (n < y) := by
      intro h4
      have : withB n l = true := by rw [withB, List.any_eq_true]; exact ⟨y, hy, by simpa using h4⟩
      rw [h] at this; cases this
    have := hno y hy
    omega
theorem with_len (n : Int) (l : List Int) : (withL n l).length ≤ l.length + 1 := by
  have key : ∀ l : List Int, (ins n l).length ≤ l.length + 1 := by
    intro l
    induction l with
    | nil => simp [ins]
    | cons x l ih =>
      simp only [ins]
      split
      · simp
      · split
        · simp
        · simp only [List.length_cons]; omega
  unfold withL
  split
  · exact key l
  · omega

set_option maxRecDepth 100000 in
set_option maxHeartbeats 2000000 in
theorem with_any (l : List Int) (n : Int) (v : Value) (base : Nat) (w : World) (h : OwI w base v l) (hr : Rise l) (hlen : l.length ≤ 100000) (hbase : base ≤ w.heap.size) :
    Calls Try.prog 105 #[v, .int .i64 n] w fun e w' => (∃ v', e = .returned v' ∧ OwI w' base v' (ins n l)) ∧ Below w.heap.size w w' := by
  have hrd := h.rd
  have hoh := hide h
  obtain ⟨A, cap, b, off, rfl, h2, h3, h4, h5⟩ := hrd
  clear h
  go_enter Try.func105, Try.ntmps105
  go_wp2
  go_loopw [5, 6, 7] (fun o q i wr => ∃ k : Nat, k ≤ l.length ∧ i = .int .i64 k ∧ OwI wr w.heap.size o (withL n (l.take k)) ∧ q = .bool (withB n (l.take k)) ∧ Hid (∀ y ∈ l.take k, y ≠ n) ∧ Below w.heap.size w wr) (fun _ _ i _ => l.length - (intOf i).toNat)
  case atStart => exact ⟨0, by omega, rfl, OwI.nil _ _, rfl, hide (by simp), Below.refl _ _⟩
  case round =>
    obtain ⟨k, hk, rfl, hown, rfl, hno, hB⟩ := hrel
    have hz := hB.size
    by_cases hlt : k < l.length
    · obtain ⟨rfl, hb⟩ := h4 (by omega)
      have hx := List.getElem?_eq_getElem hlt
      obtain ⟨vs, rfl, hat⟩ := h5 k l[k] hx
      have c0 := (hat.below hB hb).c1
      simp only [Nat.mul_one] at c0
      have hsn := hide (with_snoc hr hx hno.out)
      have hwl := with_len n (l.take k)
      have htl : (l.take k).length ≤ k := List.length_take_le _ _
      have hmem : Hid (l[k] = n → ins n l = l) := hide fun e => ins_mem hr (e ▸ List.getElem_mem hlt)
      clear hat h5 hx hno
      generalize l[k] = x at *
      generalize withL n (l.take k) = o at *
      rcases Int.lt_trichotomy x n with hc | hc | hc
      · obtain ⟨e1, e2⟩ := hsn.out.2.2.2 hc
        obtain ⟨e3, e4⟩ := hsn.out.1 (by omega)
        replace e2 := hide e2
        replace e3 := hide e3
        replace e4 := hide e4
        have d1 : (x == n) = false := by simp; omega
        rw [e1]
        clear hsn hmem
        go_wp2_with (at_builtin; refine app1 (.tmp 35) (.tmp 40) rfl rfl rfl rfl (hown.alloc _) (by simp; rfl) (by omega) (by simp; omega) ?_; intro v1 w1 hown1 hg1)
        refine ⟨⟨k + 1, by omega, rfl, by rw [e2.out]; exact hown1, by rw [e3.out, e1]; simp; omega, e4, ?_⟩, by simp [intOf]; omega⟩
        exact (hB.alloc hz _).grown hg1 (by simp; omega) (fun j e => by have := (hown.lt j e).1; omega)
      · have e1 := hide (hmem.out hc)
        subst hc
        clear hsn hmem
        go_wp2
        go_ret
        exact ⟨⟨_, rfl, by rw [e1.out]; exact hoh.out.below hB (Nat.le_refl _)⟩, hB⟩
      · obtain ⟨e3, e4⟩ := hsn.out.1 (by omega)
        replace e3 := hide e3
        replace e4 := hide e4
        have d1 : (x == n) = false := by simp; omega
        cases hq : withB n (l.take k) with
        | true =>
          have e2 := hide (hsn.out.2.2.1 hc hq)
          rw [hq] at e3
          clear hsn hmem hq
          go_wp2_with (at_builtin; refine app1 (.tmp 35) (.tmp 40) rfl rfl rfl rfl (hown.alloc _) (by simp; rfl) (by omega) (by simp; omega) ?_; intro v1 w1 hown1 hg1)
          refine ⟨⟨k + 1, by omega, rfl, by rw [e2.out]; exact hown1, by rw [e3.out]; rfl, e4, ?_⟩, by simp [intOf]; omega⟩
          exact (hB.alloc hz _).grown hg1 (by simp; omega) (fun j e => by have := (hown.lt j e).1; omega)
        | false =>
          have e2 := hide (hsn.out.2.1 hc hq)
          rw [hq] at e3
          clear hsn hmem hq
          go_wp2_with (at_builtin; first
            | (refine app1 (.tmp 31) (.tmp 33) rfl rfl rfl rfl (hown.alloc _) (by simp; rfl) (by omega) (by simp; omega) ?_; intro v1 w1 hown1 hg1; have hB1 := hide ((hB.alloc hz _).grown hg1 (by simp; omega) (fun j e => by have := (hown.lt j e).1; omega)); have hc1 : w1.cell? ⟨b, off + k, none⟩ = some (.int .i64 x) := (by rw [← c0, hB1.out.cell (p := ⟨b, off + k, none⟩) hb, hB.cell (p := ⟨b, off + k, none⟩) hb]); have hz1 := hB1.out.size; have hl1 : (o ++ [n]).length ≤ k + 2 := (by simp; omega); replace hg1 := hide hg1; replace hown1 := hide hown1)
            | (refine app1 (.tmp 35) (.tmp 40) rfl rfl rfl rfl (hown1.out.alloc _) (by simp; rfl) (by omega) (by simp; omega) ?_; intro v2 w2 hown2 hg2))
          refine ⟨⟨k + 1, by omega, rfl, by rw [e2.out]; exact hown2, by rw [e3.out]; simpa using hc, e4, ?_⟩, by simp [intOf]; omega⟩
          exact (hB1.out.alloc hz1 _).grown hg2 (by simp; omega) (fun j e => by have := (hown1.out.lt j e).1; omega)
    · obtain rfl : k = l.length := by omega
      rw [List.take_of_length_le (Nat.le_refl _)] at *
      have hen := hide (with_end hno.out)
      have hwl := with_len n l
      clear h5 h4
      cases hq : withB n l with
      | true =>
        have e1 := hide (hen.out.1 hq)
        clear hen hq
        go_wp2
        go_ret
        exact ⟨⟨_, rfl, by rw [← e1.out]; exact hown.mono hbase⟩, hB⟩
      | false =>
        have e1 := hide (hen.out.2 hq)
        clear hen hq
        go_wp2_with (at_builtin; refine app1 (.tmp 44) (.tmp 46) rfl rfl rfl rfl (hown.alloc _) (by simp; rfl) (by omega) (by simp; omega) ?_; intro v1 w1 hown1 hg1)
        go_ret
        refine ⟨⟨_, rfl, by rw [← e1.out]; exact hown1.mono hbase⟩, ?_⟩
        exact (hB.alloc hz _).grown hg1 (by simp; omega) (fun j e => by have := (hown.lt j e).1; omega)
end Go.Proofs.Ytidddeobachjgaa
