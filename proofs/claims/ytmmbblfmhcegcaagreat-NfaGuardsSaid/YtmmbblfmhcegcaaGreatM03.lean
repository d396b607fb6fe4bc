/- Several texts of one proof: A region that draws its order, whose operations read and whose calls leave all blocks below G as they were: one walk in the order of the text. | Positive steps, how long a pattern is, rows of ints held against each other: the walks. | Patterns that a call makes: what it owns of them, how they read, how they are written. | What the small tests of the layer of trees tell: numbers, terms, comparisons. -/
import Derived.Test.YtmmbblfmhcegcaaGreatM01
import Derived.Test.YtmmbblfmhcegcaaGreatM02
import Derived.Deep.QuietTactic
import Derived.BigQuiet
import Derived.Maps.AppendAt
import Derived.OneCell
import Derived.Laws.StructEq

namespace Go.Proofs.YtmmbblfmhcegcaaGreat
open Go.RowKit
open Classical in
/-- Some world in which all blocks below G are as in W. -/
noncomputable def grown (G : Nat) (W : World) (x : World) : World := if Below G W x ∧ G ≤ x.heap.size then x else W
theorem grown_of {G : Nat} {W x : World} (h : Below G W x) (hG : G ≤ x.heap.size) : grown G W x = x := if_pos ⟨h, hG⟩
theorem grown_below (G : Nat) (W x : World) : Below G W (grown G W x) := by
  unfold grown
  split
  · rename_i h; exact h.1
  · exact Below.refl _ _
theorem grown_size (G : Nat) (W x : World) (hG : G ≤ W.heap.size) : G ≤ (grown G W x).heap.size := by
  unfold grown
  split
  · rename_i h; exact h.2
  · exact hG
theorem grown_cell {G : Nat} {W x : World} {b : Nat} (o : Nat) (h : b < G) : (grown G W x).cell? ⟨b, o, none⟩ = W.cell? ⟨b, o, none⟩ := (grown_below G W x).cell (p := ⟨b, o, none⟩) h
theorem grown_frozen {G : Nat} {W x : World} {b : Nat} (o : Nat) (h : b < G) : (grown G W x).frozen? ⟨b, o, none⟩ = W.frozen? ⟨b, o, none⟩ := (grown_below G W x).frozen (p := ⟨b, o, none⟩) h

theorem wp_region_grown {P : Program} {id : Nat} {Q : Exit → Act → World → Prop} {a : Act} {w : World} {l : List Oper} (G : Nat) (hG : G ≤ w.heap.size) (hm : P.follows .mixedOrders = true) (hB : Region.lexB .any l.toArray = true)
    (h : wpQuiet P l.toArray (fun w' => ∃ n, w' = grown G w n) (fun a' => ∀ w', (∃ n, w' = grown G w n) → Q .normal a' w') l a) : (Code.region id l.toArray true).wp P Q a w :=
  wp_region_quiet (C := fun w' => ∃ n, w' = grown G w n) hm hB ⟨{ w with drawn := w.drawn + 1 }, (grown_of ((Below.refl G w).drew) hG).symm⟩ (by simpa using h)

/-- A callee's contract in such a region. -/
theorem calls_grown {P : Program} {f : FuncId} {args : Array Value} {G : Nat} {W x : World} {v : Value} (hG : G ≤ W.heap.size) (h : ∀ w, Calls P f args w fun e w' => e = .returned v ∧ Below w.heap.size w w') :
    Calls P f args (grown G W x) fun e w'' => e = .returned v ∧ ∃ n, w'' = grown G W n :=
  (h _).mono fun _ w'' ⟨he, hb⟩ => ⟨he, w'', (grown_of ((grown_below G W x).trans (hb.mono (grown_size G W x hG))) (Nat.le_trans (grown_size G W x hG) hb.size)).symm⟩

/-- The same, where the contract asks that what lies below G is as it was. -/
theorem calls_grown' {P : Program} {f : FuncId} {args : Array Value} {G : Nat} {W x : World} {v : Value} (hG : G ≤ W.heap.size) (h : ∀ w, Below G W w → G ≤ w.heap.size → Calls P f args w fun e w' => e = .returned v ∧ Below w.heap.size w w') :
    Calls P f args (grown G W x) fun e w'' => e = .returned v ∧ ∃ n, w'' = grown G W n :=
  (h _ (grown_below G W x) (grown_size G W x hG)).mono fun _ w'' ⟨he, hb⟩ => ⟨he, w'', (grown_of ((grown_below G W x).trans (hb.mono (grown_size G W x hG))) (Nat.le_trans (grown_size G W x hG) hb.size)).symm⟩

/-- A callee's contract in a drawn region that also makes a variable. -/
theorem calls_decl {P : Program} {f : FuncId} {args : Array Value} {G : Nat} {W x : World} {c : Value} {t : TypeId} {vals : Array Value} (hG : G ≤ W.heap.size) (h : ∀ w, Calls P f args w fun e w' => e = .returned c ∧ Below w.heap.size w w') :
    Calls P f args (grown G W x) fun e w'' => ∃ v, e = .returned v ∧ (∃ n, w'' = grown G W n) ∧ E1 G t vals (grown G W x) w'' ∧ v = c :=
  (h _).mono fun _ w'' ⟨he, hb⟩ => ⟨c, he, ⟨w'', (grown_of ((grown_below G W x).trans (hb.mono (grown_size G W x hG))) (Nat.le_trans (grown_size G W x hG) hb.size)).symm⟩, .inl ⟨hb, grown_size G W x hG⟩, rfl⟩
theorem grown_E1 {G : Nat} {W x w' : World} {t : TypeId} {vals : Array Value} (hG : G ≤ W.heap.size) (h : E1 G t vals (grown G W x) w') : ∃ n, w' = grown G W n := by
  have hb : Below G (grown G W x) w' := h.below
  exact ⟨w', (grown_of ((grown_below G W x).trans hb) (Nat.le_trans (grown_size G W x hG) hb.size)).symm⟩
theorem E1_alloc {G : Nat} {W : World} (t : TypeId) (vals : Array Value) (hG : G ≤ W.heap.size) (o : Obj) : E1 G t vals W (W.alloc o) := .inl ⟨(Below.refl _ _).alloc (Nat.le_refl _) _, hG⟩
theorem E1_set4 {G g : Nat} {W : World} {t : TypeId} {c0 c1 c2 c3 x0 x1 x2 x3 : Value} (hg : G ≤ g) (h : Blk W g t #[c0, c1, c2, c3]) :
    E1 G t #[x0, x1, x2, x3] W ((((W.setCell ⟨g, 0, none⟩ x0).setCell ⟨g, 1, none⟩ x1).setCell ⟨g, 2, none⟩ x2).setCell ⟨g, 3, none⟩ x3) ∧
    Blk ((((W.setCell ⟨g, 0, none⟩ x0).setCell ⟨g, 1, none⟩ x1).setCell ⟨g, 2, none⟩ x2).setCell ⟨g, 3, none⟩ x3) g t #[x0, x1, x2, x3] := by
  have hb : Blk ((((W.setCell ⟨g, 0, none⟩ x0).setCell ⟨g, 1, none⟩ x1).setCell ⟨g, 2, none⟩ x2).setCell ⟨g, 3, none⟩ x3) g t #[x0, x1, x2, x3] := by
    simpa using (((h.set_ 0 x0).set_ 1 x1).set_ 2 x2).set_ 3 x3
  refine ⟨.inr ⟨rfl, rfl, rfl, by simp [World.setCell], g, _, hg, h, rfl, hb, fun k hk => ?_⟩, hb⟩
  rw [Below.heap_setCell _ _ _ _ (by simpa using hk), Below.heap_setCell _ _ _ _ (by simpa using hk), Below.heap_setCell _ _ _ _ (by simpa using hk), Below.heap_setCell _ _ _ _ (by simpa using hk)]
theorem alloc_decl {G : Nat} {W : World} {t : TypeId} {vals cs : Array Value} (hG : G ≤ W.heap.size) (hs : cs.size = vals.size) (x : World) :
    (∃ n, (grown G W x).alloc (.cells cs t) = grown G W n) ∧ E1 G t vals (grown G W x) ((grown G W x).alloc (.cells cs t)) ∧ NewPtr G (.pointer (some ⟨(grown G W x).heap.size, 0, none⟩)) ∧
      NewBlk G t vals.size (.pointer (some ⟨(grown G W x).heap.size, 0, none⟩)) ((grown G W x).alloc (.cells cs t)) := by
  have hz := grown_size G W x hG
  have hE : E1 G t vals (grown G W x) ((grown G W x).alloc (.cells cs t)) := E1_alloc t vals hz _
  exact ⟨grown_E1 hG hE, hE, ⟨_, rfl, hz⟩, _, cs, rfl, hz, heap_alloc_new _ _, hs⟩
end Go.Proofs.YtmmbblfmhcegcaaGreat

namespace Go.Proofs.YtmmbblfmhcegcaaGreat
open Go.RowKit
attribute [local go_sem] grown_cell grown_frozen

theorem jret_int {k : IntKind} {a b : Int} (h : a = b) : Ending.returned (.int k a) = .returned (.int k b) := by rw [h]
theorem jret_bool {a b : Bool} (h : a = b) : Ending.returned (.bool a) = .returned (.bool b) := by rw [h]
theorem jdrewN {B : Nat} {a w : World} (h : Below B a w) (n : Nat) : Below B a (w.drewN n) := ⟨h.os, h.tape, h.output, h.size, h.block⟩

/-- A contract that leaves the world as it was, as one that leaves what was there as it was. -/
theorem below_of_same {P : Program} {f : FuncId} {args : Array Value} {E : Ending} {w : World} (h : Calls P f args w fun e w' => e = E ∧ w = w') : Calls P f args w fun e w' => e = E ∧ Below w.heap.size w w' :=
  h.mono fun _ _ ⟨he, hw⟩ => ⟨he, hw ▸ Below.refl _ _⟩

set_option maxRecDepth 100000 in
set_option maxHeartbeats 1000000 in
theorem positive_any (p : List Sp) (win : Int) (sv : Value) (w : World) (h : RdS w w.heap.size sv p) (hlen : p.length ≤ 900000) :
    Calls Tryz.prog 27 #[ptV sv win] w fun e w' => (∃ v, e = .returned v ∧ OwI w' w.heap.size v (positive p)) ∧ Below w.heap.size w w' := by
  obtain ⟨A, cap, b, off, rfl, h2, h3, h4, h5⟩ := h
  go_enter Tryz.func27, Tryz.ntmps27
  go_wp2
  go_loopw [2, 8] (fun l i wr => ∃ k : Nat, k ≤ p.length ∧ i = .int .i64 k ∧ OwI wr (w.heap.size + 1) l (positive (p.take k)) ∧ Below w.heap.size w wr ∧ w.heap.size + 1 ≤ wr.heap.size) (fun _ i _ => p.length - (intOf i).toNat)
  case atStart => exact ⟨0, by omega, rfl, OwI.nil _ _, (Below.refl _ _).alloc (Nat.le_refl _) _, by simp⟩
  case round =>
    obtain ⟨k, hk, rfl, hown, hB, hz⟩ := hrel
    by_cases hlt : k < p.length
    · obtain ⟨rfl, hb⟩ := h4 (by omega)
      have hx := List.getElem?_eq_getElem hlt
      obtain ⟨cs, ⟨cv, rfl, A', cap', b', off', rfl, g2, g3, g4, g5⟩, hat⟩ := h5 k p[k] hx
      obtain ⟨c0, c1, c2, c3, c4, c5⟩ := (hat.below hB hb).c6
      have hs := hide (pos_snoc hx)
      have hpl := pos_len p k
      clear g4 g5 hat h5 hx
      generalize hL : positive (p.take k) = l at *
      generalize p[k] = s at *
      obtain ⟨neg, kind, mn, mx, strict, cmps⟩ := s
      simp only at c0 c1 c2 c3 c4 c5 hs
      clear hL
      cases neg with
      | true =>
        go_wp2
        refine ⟨⟨k + 1, by omega, rfl, ?_, hB.alloc hB.size _, by simp; omega⟩, by simp [intOf]; omega⟩
        rw [hs.out]
        simpa using hown.alloc _
      | false =>
        go_wp2_with (at_builtin; refine app1 (.tmp 16) (.tmp 18) rfl rfl rfl rfl ((hown.alloc _).alloc _) (by simp; rfl) (by omega) (by simp; omega) ?_; intro v1 w1 hown1 hg1)
        refine ⟨⟨k + 1, by omega, rfl, by rw [hs.out]; simpa using hown1, ?_, ?_⟩, by simp [intOf]; omega⟩
        · exact ((hB.alloc hB.size _).alloc (by simp; omega) _).grown hg1 (by simp; omega) (fun j e => by have := (hown.lt j e).1; omega)
        · have := hg1.size
          simp at this
          omega
    · obtain rfl : k = p.length := by omega
      rw [List.take_of_length_le (Nat.le_refl _)] at hown
      go_wp2
      go_ret
      exact ⟨⟨_, rfl, hown.mono (by omega)⟩, hB⟩

theorem jne_at {α : Type} {xs ys : List α} {k : Nat} {x y : α} (hx : xs[k]? = some x) (hy : ys[k]? = some y) (h : x ≠ y) : xs ≠ ys := by
  rintro rfl
  rw [hx] at hy
  exact h (Option.some.inj hy)
theorem jtake_snoc {α : Type} {xs ys : List α} {k : Nat} {x : α} (hx : xs[k]? = some x) (hy : ys[k]? = some x) (h : xs.take k = ys.take k) : xs.take (k + 1) = ys.take (k + 1) := by
  rw [List.take_add_one, List.take_add_one, h, hx, hy]
theorem jeq_of_take {α : Type} {xs ys : List α} (hl : xs.length = ys.length) (h : xs.take xs.length = ys.take xs.length) : xs = ys := by
  rwa [List.take_of_length_le (Nat.le_refl _), List.take_of_length_le (by omega)] at h

set_option maxRecDepth 100000 in
theorem ints_any (xs ys : List Int) (v u : Value) (w : World) (hv : RdI w w.heap.size v xs) (hu : RdI w w.heap.size u ys) :
    Calls Tryz.prog 14 #[v, u] w fun e w' => e = .returned (.bool (decide (xs = ys))) ∧ Below w.heap.size w w' := by
  obtain ⟨A, cap, b, off, rfl, h2, h3, h4, h5⟩ := hv
  obtain ⟨A', cap', b', off', rfl, g2, g3, g4, g5⟩ := hu
  by_cases hne : xs.length ≠ ys.length
  · have hf : decide (xs = ys) = false := by simp; rintro rfl; exact hne rfl
    have hd : ((xs.length : Int) == ys.length) = false := by simp; omega
    have hd' : ((xs.length : Int) != ys.length) = true := by simp; omega
    clear h4 h5 g4 g5
    rw [hf]
    go_enter Tryz.func14, Tryz.ntmps14
    go_wp2
    go_ret
    exact ⟨rfl, Below.refl _ _⟩
  have hl := hide (Decidable.not_not.1 hne)
  have hd : ((xs.length : Int) == ys.length) = true := by simp [hl.out]
  have hd' : ((xs.length : Int) != ys.length) = false := by simp [hl.out]
  clear hne
  go_enter Tryz.func14, Tryz.ntmps14
  go_wp2
  clear hd hd'
  go_loopw [5] (fun i wr => ∃ k : Nat, k ≤ xs.length ∧ i = .int .i64 k ∧ Hid (xs.take k = ys.take k) ∧ Below w.heap.size w wr) (fun i _ => xs.length - (intOf i).toNat)
  case atStart => exact ⟨0, by omega, rfl, hide rfl, Below.refl _ _⟩
  case round =>
    obtain ⟨k, hk, rfl, heq, hB⟩ := hrel
    by_cases hlt : k < xs.length
    · have hlt' : k < ys.length := by have := hl.out; omega
      obtain ⟨rfl, hb⟩ := h4 (by omega)
      obtain ⟨rfl, hb'⟩ := g4 (by omega)
      have hx := List.getElem?_eq_getElem hlt
      have hy := List.getElem?_eq_getElem hlt'
      obtain ⟨vs, rfl, hat⟩ := h5 k xs[k] hx
      obtain ⟨us, rfl, hat'⟩ := g5 k ys[k] hy
      have c0 := (hat.below hB hb).c1
      have d0 := (hat'.below hB hb').c1
      simp only [Nat.mul_one] at c0 d0
      have hno : xs[k] ≠ ys[k] → Hid (decide (xs = ys) = false) := fun h => hide (by simpa using jne_at hx hy h)
      have hyes : xs[k] = ys[k] → Hid (xs.take (k + 1) = ys.take (k + 1)) := fun h => hide (jtake_snoc hx (h ▸ hy) heq.out)
      have hno := hide hno
      have hyes := hide hyes
      clear hat hat' h5 g5 hx hy heq
      generalize xs[k] = c at *
      generalize ys[k] = d at *
      have hz := hB.size
      by_cases hcd : c = d
      · have hn := hyes.out hcd
        subst hcd
        clear hno hyes
        go_wp2
        go_quiet (fail)
        go_wp2
        exact ⟨⟨k + 1, by omega, rfl, hn, jdrewN hB _⟩, by simp [intOf]; omega⟩
      · have hn := hno.out hcd
        have e1 : (c == d) = false := by simpa using hcd
        have e2 : (c != d) = true := by simpa using hcd
        clear hno hyes
        go_wp2
        go_quiet (fail)
        go_wp2
        go_ret
        exact ⟨jret_bool hn.out.symm, jdrewN hB _⟩
    · obtain rfl : k = xs.length := by omega
      have hi : Hid (decide (xs = ys) = true) := hide (by simpa using jeq_of_take hl.out heq.out)
      clear h4 h5 g4 g5
      go_wp2
      go_ret
      exact ⟨jret_bool hi.out.symm, hB⟩

end Go.Proofs.YtmmbblfmhcegcaaGreat

namespace Go.Proofs.YtmmbblfmhcegcaaGreat
open Go.RowKit

section
variable {α β : Type} {f : α → List β} {sz : Nat}
theorem flat_len (hf : ∀ x, (f x).length = sz) (l : List α) : (l.flatMap f).length = l.length * sz := by
  induction l with
  | nil => simp
  | cons x l ih => simp only [List.flatMap_cons, List.length_append, hf, ih, List.length_cons, Nat.succ_mul]; omega
theorem flat_get (hf : ∀ x, (f x).length = sz) {l : List α} {i : Nat} {x : α} (h : l[i]? = some x) {j : Nat} (hj : j < sz) : (l.flatMap f)[i * sz + j]? = (f x)[j]? := by
  induction l generalizing i with
  | nil => simp at h
  | cons y l ih =>
    cases i with
    | zero =>
      simp only [List.getElem?_cons_zero, Option.some.injEq] at h
      subst h
      rw [List.flatMap_cons, Nat.zero_mul, Nat.zero_add, List.getElem?_append_left (by rw [hf]; exact hj)]
    | succ i =>
      rw [List.flatMap_cons, List.getElem?_append_right (by rw [hf, Nat.succ_mul]; omega), hf, show (i + 1) * sz + j - sz = i * sz + j by rw [Nat.succ_mul]; omega]
      exact ih (by simpa using h)
theorem flat_set (hf : ∀ x, (f x).length = sz) {l : List α} {i : Nat} {x y : α} (h : l[i]? = some x) {j : Nat} (hj : j < sz) {u : β} (hy : f y = (f x).set j u) : (l.flatMap f).set (i * sz + j) u = (l.set i y).flatMap f := by
  induction l generalizing i with
  | nil => simp at h
  | cons z l ih =>
    cases i with
    | zero =>
      simp only [List.getElem?_cons_zero, Option.some.injEq] at h
      subst h
      rw [List.flatMap_cons, Nat.zero_mul, Nat.zero_add, List.set_append_left _ _ (by rw [hf]; exact hj), List.set_cons_zero, List.flatMap_cons, hy]
    | succ i =>
      rw [List.flatMap_cons, List.set_append_right _ _ (by rw [hf, Nat.succ_mul]; omega), hf, show (i + 1) * sz + j - sz = i * sz + j by rw [Nat.succ_mul]; omega, ih (by simpa using h), List.set_cons_succ, List.flatMap_cons]
theorem flat_take (hf : ∀ x, (f x).length = sz) (l : List α) (k : Nat) : (l.flatMap f).take (k * sz) = (l.take k).flatMap f := by
  induction l generalizing k with
  | nil => simp
  | cons x l ih =>
    cases k with
    | zero => simp
    | succ k =>
      rw [List.flatMap_cons, List.take_succ_cons, List.flatMap_cons, List.take_append, hf, Nat.succ_mul, show k * sz + sz - sz = k * sz by omega, ih, List.take_of_length_le (by rw [hf]; omega)]
end

theorem cm_len (c : Cm) : c.cells.length = 9 := rfl
/-- The cells of a step whose comparisons are x.2. -/
def spc (x : Sp × Value) : List Value := [.bool x.1.neg, .int .i64 x.1.kind, .int .i64 x.1.min, .int .i64 x.1.max, .bool x.1.strict, x.2]
theorem sp_len (x : Sp × Value) : (spc x).length = 6 := rfl

/-- v is a slice of the call's own, of the comparisons cs. -/
def OwC (w : World) (base : Nat) (v : Value) (cs : List Cm) : Prop := w.ownsRow base 78 9 v cs.length (cs.flatMap Cm.cells) ∧ ∀ c ∈ cs, 0 ≤ c.op
/-- v is a slice of the call's own, of the steps of ps; their comparisons lie where ps tells. -/
def OwR (w : World) (base : Nat) (v : Value) (ps : List (Sp × Value)) : Prop := w.ownsRow base 45 6 v ps.length (ps.flatMap spc)
/-- No two of these lie in one block. -/
def Apart (ps : List (Sp × Value)) : Prop := ps.Pairwise fun x y => x.2.ownBlock = none ∨ x.2.ownBlock ≠ y.2.ownBlock
structure OwP (w : World) (base : Nat) (v : Value) (ps : List (Sp × Value)) : Prop where
  row : OwR w base v ps
  cmps : ∀ x ∈ ps, OwC w base x.2 x.1.cmps
  apart : Apart ps

section
variable {w w' : World} {base b' B n : Nat} {e : TypeId} {size : Nat} {v : Value} {xs : List Value}
theorem own_mono (h : w.ownsRow base e size v n xs) (hb : b' ≤ base) : w.ownsRow b' e size v n xs := by
  refine ⟨h.1, ?_⟩
  rcases h.2 with h2 | ⟨g, cap, cur, hv, hg, r⟩
  · exact .inl h2
  · exact .inr ⟨g, cap, cur, hv, by omega, r⟩
theorem own_below (h : w.ownsRow base e size v n xs) (hb : Below B w w') (hB : w.heap.size ≤ B) : w'.ownsRow base e size v n xs := by
  refine ⟨h.1, ?_⟩
  rcases h.2 with h2 | ⟨g, cap, cur, hv, hg, hh, r⟩
  · exact .inl h2
  · have := (Array.getElem?_eq_some_iff.1 hh).1
    exact .inr ⟨g, cap, cur, hv, hg, (hb.block g (by omega)).trans hh, r⟩
theorem own_form (h : w.ownsRow base e size v n xs) : ∃ A cap, v = .slice A n cap := by
  rcases h.2 with ⟨h2, h3⟩ | ⟨g, cap, cur, hv, -⟩
  · exact ⟨none, 0, by rw [h2, h3]⟩
  · exact ⟨_, _, hv⟩
theorem own_form1 (h : w.ownsRow base e size v n xs) (hn : 0 < n) : ∃ g cap, v = .slice (some ⟨g, 0, none⟩) n cap ∧ base ≤ g ∧ g < w.heap.size ∧ n ≤ cap := by
  rcases h.2 with ⟨h2, h3⟩ | ⟨g, cap, cur, hv, hg, hh, hc, -⟩
  · omega
  · exact ⟨g, cap, hv, hg, (Array.getElem?_eq_some_iff.1 hh).1, hc⟩
/-- Rows of unlike element types never share a block. -/
theorem own_ne {b2 n2 size2 : Nat} {e2 : TypeId} {v2 : Value} {xs2 : List Value} (h : w.ownsRow base e size v n xs) (h2 : w.ownsRow b2 e2 size2 v2 n2 xs2) (hne : e ≠ e2) : v.ownBlock = none ∨ v.ownBlock ≠ v2.ownBlock := by
  rcases h.2 with ⟨rfl, -⟩ | ⟨g, cap, cur, rfl, hg, hh, -⟩
  · exact .inl rfl
  · right
    rcases h2.2 with ⟨rfl, -⟩ | ⟨g2, cap2, cur2, rfl, hg2, hh2, -⟩
    · simp [Value.ownBlock]
    · simp only [Value.ownBlock, ne_eq, Option.some.injEq]
      rintro rfl
      rw [hh] at hh2
      simp only [Option.some.injEq, Obj.cells.injEq] at hh2
      exact hne hh2.2.1
theorem own_rd {α : Type} {f : α → List Value} {cells : World → Nat → α → List Value → Prop} {l : List α} (hf : ∀ x, (f x).length = size) (h : w.ownsRow base e size v l.length (l.flatMap f))
    (hc : ∀ x ∈ l, cells w w.heap.size x (f x)) : RdL size cells w w.heap.size v l := by
  rcases h.2 with ⟨h2, h3⟩ | ⟨g, cap, cur, hv, hg, hh, hn, hm, -⟩
  · obtain rfl := List.eq_nil_of_length_eq_zero h3
    exact ⟨none, 0, 0, 0, by rw [h2]; rfl, Nat.le_refl _, by omega, fun h => absurd h (by simp), fun i x hx => by simp at hx⟩
  · subst hv
    refine ⟨_, cap, g, 0, rfl, hn, by unfold maxLen at hm; exact hm, fun _ => ⟨rfl, (Array.getElem?_eq_some_iff.1 hh).1⟩, fun i x hx => ⟨f x, hc x (List.mem_of_getElem? hx), fun j u hu => ?_⟩⟩
    have hj : j < size := by
      have := (List.getElem?_eq_some_iff.1 hu).1
      rwa [hf] at this
    have hi := (List.getElem?_eq_some_iff.1 hx).1
    have hlt : i * size + j < l.length * size := by
      have : (i + 1) * size ≤ l.length * size := Nat.mul_le_mul_right _ hi
      rw [Nat.succ_mul] at this
      omega
    rw [Nat.zero_add, h.cellAt _ hlt, flat_get hf hx hj]
    exact hu
end

section
variable {w w' : World} {base B b' : Nat} {v : Value} {cs : List Cm} {ps : List (Sp × Value)}
theorem OwC.nil (w : World) (base : Nat) : OwC w base (.slice none 0 0) [] := ⟨World.ownsRow_nil w base _ _, by simp⟩
theorem OwC.mono (h : OwC w base v cs) (hb : b' ≤ base) : OwC w b' v cs := ⟨own_mono h.1 hb, h.2⟩
theorem OwC.below (h : OwC w base v cs) (hb : Below B w w') (hB : w.heap.size ≤ B) : OwC w' base v cs := ⟨own_below h.1 hb hB, h.2⟩
theorem OwC.rd (h : OwC w base v cs) : RdC w w.heap.size v cs := own_rd cm_len h.1 fun c hc => ⟨rfl, h.2 c hc⟩
theorem OwC.kept {row : Option Nat} (h : OwC w base v cs) (hg : w.grownBy w' row) (hne : v.ownBlock = none ∨ v.ownBlock ≠ row) : OwC w' base v cs := ⟨h.1.kept hg hne, h.2⟩
theorem OwR.below (h : OwR w base v ps) (hb : Below B w w') (hB : w.heap.size ≤ B) : OwR w' base v ps := own_below h hb hB
theorem OwP.below (h : OwP w base v ps) (hb : Below B w w') (hB : w.heap.size ≤ B) : OwP w' base v ps := ⟨own_below h.row hb hB, fun x hx => (h.cmps x hx).below hb hB, h.apart⟩
theorem OwP.mono (h : OwP w base v ps) (hb : b' ≤ base) : OwP w b' v ps := ⟨own_mono h.row hb, fun x hx => (h.cmps x hx).mono hb, h.apart⟩
theorem OwP.nil (w : World) (base : Nat) : OwP w base (.slice none 0 0) [] := ⟨World.ownsRow_nil w base _ _, by simp, List.Pairwise.nil⟩
theorem OwP.form (h : OwP w base v ps) : ∃ A cap, v = .slice A ps.length cap := own_form h.row
/-- How what is owned reads. -/
theorem rd_of_row (h : OwR w base v ps) (hc : ∀ x ∈ ps, RdC w w.heap.size x.2 x.1.cmps) : RdS w w.heap.size v (ps.map (·.1)) := by
  have h1 : RdL 6 (fun w B (x : Sp × Value) cs => cs = spc x ∧ RdC w B x.2 x.1.cmps) w w.heap.size v ps := own_rd sp_len h fun x hx => ⟨rfl, hc x hx⟩
  obtain ⟨A, cap, b, off, h1, h2, h3, h4, h5⟩ := h1
  refine ⟨A, cap, b, off, by simpa using h1, by simpa using h2, h3, by simpa using h4, fun i s hs => ?_⟩
  simp only [List.getElem?_map, Option.map_eq_some_iff] at hs
  obtain ⟨x, hx, rfl⟩ := hs
  obtain ⟨cs, ⟨rfl, hr⟩, hat⟩ := h5 i x hx
  exact ⟨_, ⟨x.2, rfl, hr⟩, hat⟩
theorem OwP.rd (h : OwP w base v ps) : RdS w w.heap.size v (ps.map (·.1)) := rd_of_row h.row fun x hx => (h.cmps x hx).rd

/-- A field of a step is written. -/
theorem OwP.write {i j : Nat} {x : Sp × Value} {s' : Sp} {u : Value} {n cap g : Nat} (h : OwP w base (.slice (some ⟨g, 0, none⟩) n cap) ps) (hx : ps[i]? = some x) (hj : j < 6)
    (hy : spc (s', x.2) = (spc x).set j u) (hcm : s'.cmps = x.1.cmps) : OwP (w.setCell ⟨g, i * 6 + j, none⟩ u) base (.slice (some ⟨g, 0, none⟩) n cap) (ps.set i (s', x.2)) := by
  have hn : n = ps.length := by
    obtain ⟨A, c, e⟩ := h.form
    injection e
  subst hn
  have hb : ∀ y ∈ ps, y.2.ownBlock = none ∨ y.2.ownBlock ≠ some g := fun y hy => own_ne (h.cmps y hy).1 h.row (by decide)
  have hst := World.ownsRow.stored h.row (i * 6 + j) u
  refine ⟨?_, fun y hyy => ?_, ?_⟩
  · have := hst.1
    rw [flat_set sp_len hx hj hy] at this
    simpa [OwR] using this
  · rcases List.mem_or_eq_of_mem_set hyy with hm | rfl
    · exact (h.cmps y hm).kept hst.2 (hb y hm)
    · have hm := List.mem_of_getElem? hx
      simp only [hcm]
      exact (h.cmps x hm).kept hst.2 (hb x hm)
  · have hmap : (ps.set i (s', x.2)).map (·.2) = ps.map (·.2) := by
      rw [List.map_set]
      apply List.ext_getElem?
      intro k
      by_cases hk : i = k
      · subst hk
        simp [List.getElem?_set, hx]
        exact (List.getElem?_eq_some_iff.1 hx).1
      · rw [List.getElem?_set_ne hk]
    have ha : (ps.map (·.2)).Pairwise fun a b => a.ownBlock = none ∨ a.ownBlock ≠ b.ownBlock := List.pairwise_map.2 h.apart
    rw [← hmap] at ha
    exact List.pairwise_map.1 ha
end
end Go.Proofs.YtmmbblfmhcegcaaGreat

namespace Go.Proofs.YtmmbblfmhcegcaaGreat
open Go.RowKit

theorem ret_bool {a b : Bool} (h : a = b) : Ending.returned (.bool a) = .returned (.bool b) := by rw [h]
theorem ret_int {k : IntKind} {a b : Int} (h : a = b) : Ending.returned (.int k a) = .returned (.int k b) := by rw [h]

theorem number_any (n : Int) (w : World) : Calls Tryz.prog 55 #[.int .i64 n] w fun e w' => e = .returned (.bool (numB n)) ∧ w = w' := by
  by_cases h : 0 ≤ n
  · go_enter Tryz.func55, Tryz.ntmps55
    go_wp2
    go_ret
    exact ⟨ret_bool (by simp [numB, h]), rfl⟩
  · go_enter Tryz.func55, Tryz.ntmps55
    go_wp2
    go_ret
    exact ⟨ret_bool (by simp [numB]; omega), rfl⟩
theorem rnumber_any (n : Int) (w : World) : Calls Tryz.prog 48 #[.int .i64 n] w fun e w' => e = .returned (.bool (numB n)) ∧ w = w' := by
  by_cases h : 0 ≤ n
  · go_enter Tryz.func48, Tryz.ntmps48
    go_wp2
    go_ret
    exact ⟨ret_bool (by simp [numB, h]), rfl⟩
  · go_enter Tryz.func48, Tryz.ntmps48
    go_wp2
    go_ret
    exact ⟨ret_bool (by simp [numB]; omega), rfl⟩

theorem two_any (k n s r : Int) (w : World) : Calls Tryz.prog 87 #[.agg #[.int .u8 k, .int .i64 n, .int .i64 s, .int .i64 r]] w fun e w' => e = .returned (.bool (Tm.two ⟨k, n, s, r⟩)) ∧ Below w.heap.size w w' := by
  by_cases h : k = 5
  · subst h
    go_enter Tryz.func87, Tryz.ntmps87
    go_wp2
    go_ret
    exact ⟨rfl, (Below.refl _ _).alloc (Nat.le_refl _) _⟩
  · have h' : (k == 5) = false := by simpa using h
    go_enter Tryz.func87, Tryz.ntmps87
    go_wp2
    go_ret
    exact ⟨ret_bool (by by_cases h6 : k = 6 <;> simp [Tm.two, h, h6]), (Below.refl _ _).alloc (Nat.le_refl _) _⟩

theorem eq_tm (a0 a1 a2 a3 b0 b1 b2 b3 : Int) (w : World) :
    (Op.equalIn 10000 76 (.agg #[.int .u8 a0, .int .i64 a1, .int .i64 a2, .int .i64 a3]) (.agg #[.int .u8 b0, .int .i64 b1, .int .i64 b2, .int .i64 b3])).run Tryz.prog w = .ok (decide (a0 = b0 ∧ a1 = b1 ∧ a2 = b2 ∧ a3 = b3)) w := by
  have u1 := Tryz.underlying5
  have u3 := Tryz.underlying3
  have g1 := Tryz.isAgg5
  have g3 := Tryz.isAgg3
  have z1 := Tryz.sizeOf5
  have z3 := Tryz.sizeOf3
  have hS : Tryz.prog.underlying 76 = some (.struct (Tryz.prog.fieldsOf 76)) := by kernel_rfl
  have hp : Tryz.prog.stoodInHeld 76 = false := by kernel_rfl
  rw [show (10000 : Nat) = 9999 + 1 from rfl, run_equalIn_struct w 9999 76 _ _ hS hp]
  simp only [Program.fieldsOf, Tryz.underlying76]
  go_simp
  by_cases h1 : a0 = b0 <;> by_cases h2 : a1 = b1 <;> by_cases h3 : a2 = b2 <;> by_cases h4 : a3 = b3 <;> simp [h1, h2, h3, h4]

theorem eq_cm (a0 a1 a2 a3 a4 a5 a6 a7 a8 b0 b1 b2 b3 b4 b5 b6 b7 b8 : Int) (w : World) :
    (Op.equalIn 10000 78 (.agg #[.int .u8 a0, .int .u8 a1, .int .i64 a2, .int .i64 a3, .int .i64 a4, .int .u8 a5, .int .i64 a6, .int .i64 a7, .int .i64 a8])
      (.agg #[.int .u8 b0, .int .u8 b1, .int .i64 b2, .int .i64 b3, .int .i64 b4, .int .u8 b5, .int .i64 b6, .int .i64 b7, .int .i64 b8])).run Tryz.prog w =
      .ok (decide (a0 = b0 ∧ (a1 = b1 ∧ a2 = b2 ∧ a3 = b3 ∧ a4 = b4) ∧ (a5 = b5 ∧ a6 = b6 ∧ a7 = b7 ∧ a8 = b8))) w := by
  have u1 := Tryz.underlying5
  have u3 := Tryz.underlying3
  have g1 := Tryz.isAgg5
  have g3 := Tryz.isAgg3
  have gT := Tryz.isAgg76
  have z1 := Tryz.sizeOf5
  have z3 := Tryz.sizeOf3
  have zT := Tryz.sizeOf76
  have hS : Tryz.prog.underlying 78 = some (.struct (Tryz.prog.fieldsOf 78)) := by kernel_rfl
  have hp : Tryz.prog.stoodInHeld 78 = false := by kernel_rfl
  rw [show (10000 : Nat) = 9999 + 1 from rfl, run_equalIn_struct w 9999 78 _ _ hS hp]
  simp only [Program.fieldsOf, Tryz.underlying78]
  have hS2 : Tryz.prog.underlying 76 = some (.struct (Tryz.prog.fieldsOf 76)) := by kernel_rfl
  have hp2 : Tryz.prog.stoodInHeld 76 = false := by kernel_rfl
  have hT : ∀ (x0 x1 x2 x3 y0 y1 y2 y3 : Int) (w : World), (Op.equalIn 9999 76 (.agg #[.int .u8 x0, .int .i64 x1, .int .i64 x2, .int .i64 x3]) (.agg #[.int .u8 y0, .int .i64 y1, .int .i64 y2, .int .i64 y3])).run Tryz.prog w = .ok (decide (x0 = y0 ∧ x1 = y1 ∧ x2 = y2 ∧ x3 = y3)) w := by
    intro x0 x1 x2 x3 y0 y1 y2 y3 w
    rw [show (9999 : Nat) = 9998 + 1 from rfl, run_equalIn_struct w 9998 76 _ _ hS2 hp2]
    simp only [Program.fieldsOf, Tryz.underlying76]
    go_simp
    by_cases h1 : x0 = y0 <;> by_cases h2 : x1 = y1 <;> by_cases h3 : x2 = y2 <;> by_cases h4 : x3 = y3 <;> simp [h1, h2, h3, h4]
  generalize hb : decide (a0 = b0 ∧ (a1 = b1 ∧ a2 = b2 ∧ a3 = b3 ∧ a4 = b4) ∧ (a5 = b5 ∧ a6 = b6 ∧ a7 = b7 ∧ a8 = b8)) = bb
  go_simp
  subst hb
  by_cases h0 : a0 = b0
  · by_cases hA : a1 = b1 ∧ a2 = b2 ∧ a3 = b3 ∧ a4 = b4
    · by_cases hB : a5 = b5 ∧ a6 = b6 ∧ a7 = b7 ∧ a8 = b8
      · simp [h0, hA, hB]
      · simp only [h0, hA, hB, and_false, decide_false, if_true]
        simpa using hB
    · simp only [h0, hA, false_and, and_false, decide_false, if_true]
      simp
      intro p1 p2 p3 p4
      exact absurd ⟨p1, p2, p3, p4⟩ hA
  · simp [h0]

set_option maxHeartbeats 2000000 in
theorem term_any (k n s r : Int) (w : World) : Calls Tryz.prog 78 #[.agg #[.int .u8 k, .int .i64 n, .int .i64 s, .int .i64 r]] w fun e w' => e = .returned (.bool (Tm.ok ⟨k, n, s, r⟩)) ∧ Below w.heap.size w w' := by
  by_cases h1 : n < -1099511627776
  · have hf : Tm.ok ⟨k, n, s, r⟩ = false := by simp [Tm.ok]; omega
    rw [hf]; clear hf
    go_enter Tryz.func78, Tryz.ntmps78
    go_wp2
    refine wp_scope_fwd 0 rfl ?_
    go_wp2
    all_goals (try (refine wp_goto ⟨rfl, ?_⟩; go_wp2))
    all_goals (first | refine ret_noGoto ?_ | refine ret_jump ?_ | skip)
    all_goals (show bodyPost _ _ _ _ _ _)
    all_goals go_ret
    all_goals exact ⟨rfl, ((Below.refl _ _).alloc (Nat.le_refl _) _).alloc (by simp) _⟩
  replace h1 := Int.not_lt.1 h1
  by_cases h2 : 1099511627776 < n
  · have hf : Tm.ok ⟨k, n, s, r⟩ = false := by simp [Tm.ok]; omega
    rw [hf]; clear hf
    go_enter Tryz.func78, Tryz.ntmps78
    go_wp2
    refine wp_scope_fwd 0 rfl ?_
    go_wp2
    all_goals (try (refine wp_goto ⟨rfl, ?_⟩; go_wp2))
    all_goals (first | refine ret_noGoto ?_ | refine ret_jump ?_ | skip)
    all_goals (show bodyPost _ _ _ _ _ _)
    all_goals go_ret
    all_goals exact ⟨rfl, ((Below.refl _ _).alloc (Nat.le_refl _) _).alloc (by simp) _⟩
  replace h2 := Int.not_lt.1 h2
  by_cases h3 : 7 ≤ k
  · have hf : Tm.ok ⟨k, n, s, r⟩ = false := by simp [Tm.ok]; omega
    rw [hf]; clear hf
    go_enter Tryz.func78, Tryz.ntmps78
    go_wp2
    refine wp_scope_fwd 0 rfl ?_
    go_wp2
    all_goals (try (refine wp_goto ⟨rfl, ?_⟩; go_wp2))
    all_goals (first | refine ret_noGoto ?_ | refine ret_jump ?_ | skip)
    all_goals (show bodyPost _ _ _ _ _ _)
    all_goals go_ret
    all_goals exact ⟨rfl, ((Below.refl _ _).alloc (Nat.le_refl _) _).alloc (by simp) _⟩
  replace h3 := Int.not_le.1 h3
  by_cases h4 : s < 0
  · have hf : Tm.ok ⟨k, n, s, r⟩ = false := by simp [Tm.ok]; omega
    rw [hf]; clear hf
    go_enter Tryz.func78, Tryz.ntmps78
    go_wp2
    refine wp_scope_fwd 0 rfl ?_
    go_wp2
    all_goals (try (refine wp_goto ⟨rfl, ?_⟩; go_wp2))
    all_goals (first | refine ret_noGoto ?_ | refine ret_jump ?_ | skip)
    all_goals (show bodyPost _ _ _ _ _ _)
    all_goals go_ret
    all_goals exact ⟨rfl, ((Below.refl _ _).alloc (Nat.le_refl _) _).alloc (by simp) _⟩
  replace h4 := Int.not_lt.1 h4
  by_cases h5 : 26 ≤ s
  · have hf : Tm.ok ⟨k, n, s, r⟩ = false := by simp [Tm.ok]; omega
    rw [hf]; clear hf
    go_enter Tryz.func78, Tryz.ntmps78
    go_wp2
    refine wp_scope_fwd 0 rfl ?_
    go_wp2
    all_goals (try (refine wp_goto ⟨rfl, ?_⟩; go_wp2))
    all_goals (first | refine ret_noGoto ?_ | refine ret_jump ?_ | skip)
    all_goals (show bodyPost _ _ _ _ _ _)
    all_goals go_ret
    all_goals exact ⟨rfl, ((Below.refl _ _).alloc (Nat.le_refl _) _).alloc (by simp) _⟩
  replace h5 := Int.not_le.1 h5
  by_cases h6 : r < 0
  · have hf : Tm.ok ⟨k, n, s, r⟩ = false := by simp [Tm.ok]; omega
    rw [hf]; clear hf
    go_enter Tryz.func78, Tryz.ntmps78
    go_wp2
    refine wp_scope_fwd 0 rfl ?_
    go_wp2
    all_goals (try (refine wp_goto ⟨rfl, ?_⟩; go_wp2))
    all_goals (first | refine ret_noGoto ?_ | refine ret_jump ?_ | skip)
    all_goals (show bodyPost _ _ _ _ _ _)
    all_goals go_ret
    all_goals exact ⟨rfl, ((Below.refl _ _).alloc (Nat.le_refl _) _).alloc (by simp) _⟩
  replace h6 := Int.not_lt.1 h6
  by_cases h7 : 26 ≤ r
  · have hf : Tm.ok ⟨k, n, s, r⟩ = false := by simp [Tm.ok]; omega
    rw [hf]; clear hf
    go_enter Tryz.func78, Tryz.ntmps78
    go_wp2
    refine wp_scope_fwd 0 rfl ?_
    go_wp2
    all_goals (try (refine wp_goto ⟨rfl, ?_⟩; go_wp2))
    all_goals (first | refine ret_noGoto ?_ | refine ret_jump ?_ | skip)
    all_goals (show bodyPost _ _ _ _ _ _)
    all_goals go_ret
    all_goals exact ⟨rfl, ((Below.refl _ _).alloc (Nat.le_refl _) _).alloc (by simp) _⟩
  replace h7 := Int.not_le.1 h7
  have heq := eq_tm
  by_cases hk : k = 0
  · subst hk
    go_enter Tryz.func78, Tryz.ntmps78
    go_wp2
    go_step3
    go_wp2_with (go_at_call 87; refine (stayf (G := w.heap.size + 2) (two_any _ _ _ _ _) (by simp)).mono ?_; rintro e w1 ⟨rfl, hc1, hf1, hz1, hB1⟩)
    refine ret_noGoto ?_
    show bodyPost _ _ _ _ _ _
    go_ret
    refine ⟨ret_bool (by simp [Tm.ok, *]; try omega), ?_⟩
    repeat (first | exact Below.refl _ _ | refine Below.trans ?_ (Below.mono (Hid.out ‹Hid (Below _ _ _)›) (by first | omega | (simp; omega))) | refine Below.setCell ?_ (by first | omega | (simp; done) | (simp; omega)) _ | refine Below.alloc ?_ (by first | omega | (simp; done) | (simp; omega)) _ | refine Below.drew ?_)
  have hk' : (k == 0) = false := by simpa using hk
  by_cases h5 : k = 5
  · subst h5
    clear hk hk'
    have ht := two_any 5 n s r
    rw [show Tm.two ⟨5, n, s, r⟩ = true from rfl] at ht
    go_enter Tryz.func78, Tryz.ntmps78
    go_wp2
    go_step3
    go_wp2_with (go_at_call 87; refine (stayf (G := w.heap.size + 2) (ht _) (by simp)).mono ?_; rintro e w1 ⟨rfl, hc1, hf1, hz1, hB1⟩)
    refine ret_noGoto ?_
    show bodyPost _ _ _ _ _ _
    go_ret
    refine ⟨ret_bool (by simp [Tm.ok, *]; try omega), ?_⟩
    repeat (first | exact Below.refl _ _ | refine Below.trans ?_ (Below.mono (Hid.out ‹Hid (Below _ _ _)›) (by first | omega | (simp; omega))) | refine Below.setCell ?_ (by first | omega | (simp; done) | (simp; omega)) _ | refine Below.alloc ?_ (by first | omega | (simp; done) | (simp; omega)) _ | refine Below.drew ?_)
  by_cases h6 : k = 6
  · subst h6
    clear hk hk' h5
    have ht := two_any 6 n s r
    rw [show Tm.two ⟨6, n, s, r⟩ = true from rfl] at ht
    go_enter Tryz.func78, Tryz.ntmps78
    go_wp2
    go_step3
    go_wp2_with (go_at_call 87; refine (stayf (G := w.heap.size + 2) (ht _) (by simp)).mono ?_; rintro e w1 ⟨rfl, hc1, hf1, hz1, hB1⟩)
    refine ret_noGoto ?_
    show bodyPost _ _ _ _ _ _
    go_ret
    refine ⟨ret_bool (by simp [Tm.ok, *]; try omega), ?_⟩
    repeat (first | exact Below.refl _ _ | refine Below.trans ?_ (Below.mono (Hid.out ‹Hid (Below _ _ _)›) (by first | omega | (simp; omega))) | refine Below.setCell ?_ (by first | omega | (simp; done) | (simp; omega)) _ | refine Below.alloc ?_ (by first | omega | (simp; done) | (simp; omega)) _ | refine Below.drew ?_)
  have ht := two_any k n s r
  rw [show Tm.two ⟨k, n, s, r⟩ = false by simp [Tm.two, h5, h6]] at ht
  · skip
    go_enter Tryz.func78, Tryz.ntmps78
    go_wp2
    go_step3
    go_wp2_with (go_at_call 87; refine (stayf (G := w.heap.size + 2) (ht _) (by simp)).mono ?_; rintro e w1 ⟨rfl, hc1, hf1, hz1, hB1⟩)
    refine ret_noGoto ?_
    show bodyPost _ _ _ _ _ _
    go_ret
    refine ⟨ret_bool (by simp [Tm.ok, *]; try omega), ?_⟩
    repeat (first | exact Below.refl _ _ | refine Below.trans ?_ (Below.mono (Hid.out ‹Hid (Below _ _ _)›) (by first | omega | (simp; omega))) | refine Below.setCell ?_ (by first | omega | (simp; done) | (simp; omega)) _ | refine Below.alloc ?_ (by first | omega | (simp; done) | (simp; omega)) _ | refine Below.drew ?_)
end Go.Proofs.YtmmbblfmhcegcaaGreat
