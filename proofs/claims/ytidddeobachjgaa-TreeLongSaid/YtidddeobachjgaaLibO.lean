/- Patterns that a call makes: what it owns of them, how they read, how they are written. -/
import Derived.Test.YtidddeobachjgaaLibP
import Derived.Test.YtidddeobachjgaaPlB
import Derived.Maps.AppendAt
import Derived.OneCell
namespace Go.Proofs.Ytidddeobachjgaa
open Go.RowKit

section
variable {α β : Type} {f : α → List β} {sz : Nat}
theorem flat_len (hf : ∀ x, (f x).length = sz) (l : List α) : (l.flatMap f).length = l.length * sz := by
  induction l with
  | nil => simp
  | cons x l ih => simp only [List.flatMap_cons, List.length_append, hf, ih, List.length_cons, Nat.succ_mul]; omega
theorem flat_get (hf : ∀ x, (f x).length = sz) {l : List α} {i : Nat} {x : α} (h : l[i]? = some x) {j : Nat} (hj : j < sz) : (l.flatMap f)[i * sz + j]? = (f x)[j]? := by
  induction l generalizing i with
  | nil => simp at h
  | cons y l ih =>
    cases i with
    | zero =>
      simp only [List.getElem?_cons_zero, Option.some.injEq] at h
      subst h
      rw [List.flatMap_cons, Nat.zero_mul, Nat.zero_add, List.getElem?_append_left (by rw [hf]; exact hj)]
    | succ i =>
      rw [List.flatMap_cons, List.getElem?_append_right (by rw [hf, Nat.succ_mul]; omega), hf, show (i + 1) * sz + j - sz = i * sz + j by rw [Nat.succ_mul]; omega]
      exact ih (by simpa using h)
theorem flat_set (hf : ∀ x, (f x).length = sz) {l : List α} {i : Nat} {x y : α} (h : l[i]? = some x) {j : Nat} (hj : j < sz) {u : β} (hy : f y = (f x).set j u) : (l.flatMap f).set (i * sz + j) u = (l.set i y).flatMap f := by
  induction l generalizing i with
  | nil => simp at h
  | cons z l ih =>
    cases i with
    | zero =>
      simp only [List.getElem?_cons_zero, Option.some.injEq] at h
      subst h
      rw [List.flatMap_cons, Nat.zero_mul, Nat.zero_add, List.set_append_left _ _ (by rw [hf]; exact hj), List.set_cons_zero, List.flatMap_cons, hy]
    | succ i =>
      rw [List.flatMap_cons, List.set_append_right _ _ (by rw [hf, Nat.succ_mul]; omega), hf, show (i + 1) * sz + j - sz = i * sz + j by rw [Nat.succ_mul]; omega, ih (by simpa using h), List.set_cons_succ, List.flatMap_cons]
theorem flat_take (hf : ∀ x, (f x).length = sz) (l : List α) (k : Nat) : (l.flatMap f).take (k * sz) = (l.take k).flatMap f := by
  induction l generalizing k with
  | nil => simp
  | cons x l ih =>
    cases k with
    | zero => simp
    | succ k =>
      rw [List.flatMap_cons, List.take_succ_cons, List.flatMap_cons, List.take_append, hf, Nat.succ_mul, show k * sz + sz - sz = k * sz by omega, ih, List.take_of_length_le (by rw [hf]; omega)]
end

theorem cm_len (c : Cm) : c.cells.length = 9 := rfl
/-- The cells of a step whose comparisons are x.2. -/
def spc (x : Sp × Value) : List Value := [.bool x.1.neg, .int .i64 x.1.kind, .int .i64 x.1.min, .int .i64 x.1.max, .bool x.1.strict, x.2]
theorem sp_len (x : Sp × Value) : (spc x).length = 6 := rfl

/-- v is a slice of the call's own, of the comparisons cs. -/
def OwC (w : World) (base : Nat) (v : Value) (cs : List Cm) : Prop := w.ownsRow base 36 9 v cs.length (cs.flatMap Cm.cells) ∧ ∀ c ∈ cs, 0 ≤ c.op
/-- v is a slice of the call's own, of the steps of ps; their comparisons lie where ps tells. -/
def OwR (w : World) (base : Nat) (v : Value) (ps : List (Sp × Value)) : Prop := w.ownsRow base 30 6 v ps.length (ps.flatMap spc)
/-- No two of these lie in one block. -/
def Apart (ps : List (Sp × Value)) : Prop := ps.Pairwise fun x y => x.2.ownBlock = none ∨ x.2.ownBlock ≠ y.2.ownBlock
structure OwP (w : World) (base : Nat) (v : Value) (ps : List (Sp × Value)) : Prop where
  row : OwR w base v ps
  cmps : ∀ x ∈ ps, OwC w base x.2 x.1.cmps
  apart : Apart ps

section
variable {w w' : World} {base b' B n : Nat} {e : TypeId} {size : Nat} {v : Value} {xs : List Value}
theorem own_mono (h : w.ownsRow base e size v n xs) (hb : b' ≤ base) : w.ownsRow b' e size v n xs := by
  refine ⟨h.1, ?_⟩
  rcases h.2 with h2 | ⟨g, cap, cur, hv, hg, r⟩
  · exact .inl h2
  · exact .inr ⟨g, cap, cur, hv, by omega, r⟩
theorem own_below (h : w.ownsRow base e size v n xs) (hb : Below B w w') (hB : w.heap.size ≤ B) : w'.ownsRow base e size v n xs := by
  refine ⟨h.1, ?_⟩
  rcases h.2 with h2 | ⟨g, cap, cur, hv, hg, hh, r⟩
  · exact .inl h2
  · have := (Array.getElem?_eq_some_iff.1 hh).1
    exact .inr ⟨g, cap, cur, hv, hg, (hb.block g (by omega)).trans hh, r⟩
theorem own_form (h : w.ownsRow base e size v n xs) : ∃ A cap, v = .slice A n cap := by
  rcases h.2 with ⟨h2, h3⟩ | ⟨g, cap, cur, hv, -⟩
  · exact ⟨none, 0, by rw [h2, h3]⟩
  · exact ⟨_, _, hv⟩
theorem own_form1 (h : w.ownsRow base e size v n xs) (hn : 0 < n) : ∃ g cap, v = .slice (some ⟨g, 0, none⟩) n cap ∧ base ≤ g ∧ g < w.heap.size ∧ n ≤ cap := by
  rcases h.2 with ⟨h2, h3⟩ | ⟨g, cap, cur, hv, hg, hh, hc, -⟩
  · omega
  · exact ⟨g, cap, hv, hg, (Array.getElem?_eq_some_iff.1 hh).1, hc⟩
/-- Rows of unlike element types never share a block. -/
theorem own_ne {b2 n2 size2 : Nat} {e2 : TypeId} {v2 : Value} {xs2 : List Value} (h : w.ownsRow base e size v n xs) (h2 : w.ownsRow b2 e2 size2 v2 n2 xs2) (hne : e ≠ e2) : v.ownBlock = none ∨ v.ownBlock ≠ v2.ownBlock := by
  rcases h.2 with ⟨rfl, -⟩ | ⟨g, cap, cur, rfl, hg, hh, -⟩
  · exact .inl rfl
  · right
    rcases h2.2 with ⟨rfl, -⟩ | ⟨g2, cap2, cur2, rfl, hg2, hh2, -⟩
    · simp [Value.ownBlock]
    · simp only [Value.ownBlock, ne_eq, Option.some.injEq]
      rintro rfl
      rw [hh] at hh2
      simp only [Option.some.injEq, Obj.cells.injEq] at hh2
      exact hne hh2.2.1
theorem own_rd {α : Type} {f : α → List Value} {cells : World → Nat → α → List Value → Prop} {l : List α} (hf : ∀ x, (f x).length = size) (h : w.ownsRow base e size v l.length (l.flatMap f))
    (hc : ∀ x ∈ l, cells w w.heap.size x (f x)) : RdL size cells w w.heap.size v l := by
  rcases h.2 with ⟨h2, h3⟩ | ⟨g, cap, cur, hv, hg, hh, hn, hm, -⟩
  · obtain rfl := List.eq_nil_of_length_eq_zero h3
    exact ⟨none, 0, 0, 0, by rw [h2]; rfl, Nat.le_refl _, by omega, fun h => absurd h (by simp), fun i x hx => by simp at hx⟩
  · subst hv
    refine ⟨_, cap, g, 0, rfl, hn, by unfold maxLen at hm; exact hm, fun _ => ⟨rfl, (Array.getElem?_eq_some_iff.1 hh).1⟩, fun i x hx => ⟨f x, hc x (List.mem_of_getElem? hx), fun j u hu => ?_⟩⟩
    have hj : j < size := by
      have := (List.getElem?_eq_some_iff.1 hu).1
      rwa [hf] at this
    have hi := (List.getElem?_eq_some_iff.1 hx).1
    have hlt : i * size + j < l.length * size := by
      have : (i + 1) * size ≤ l.length * size := Nat.mul_le_mul_right _ hi
      rw [Nat.succ_mul] at this
      omega
    rw [Nat.zero_add, h.cellAt _ hlt, flat_get hf hx hj]
    exact hu
end

section
variable {w w' : World} {base B b' : Nat} {v : Value} {cs : List Cm} {ps : List (Sp × Value)}
theorem OwC.nil (w : World) (base : Nat) : OwC w base (.slice none 0 0) [] := ⟨World.ownsRow_nil w base _ _, by simp⟩
theorem OwC.mono (h : OwC w base v cs) (hb : b' ≤ base) : OwC w b' v cs := ⟨own_mono h.1 hb, h.2⟩
theorem OwC.below (h : OwC w base v cs) (hb : Below B w w') (hB : w.heap.size ≤ B) : OwC w' base v cs := ⟨own_below h.1 hb hB, h.2⟩
theorem OwC.rd (h : OwC w base v cs) : RdC w w.heap.size v cs := own_rd cm_len h.1 fun c hc => ⟨rfl, h.2 c hc⟩
theorem OwC.kept {row : Option Nat} (h : OwC w base v cs) (hg : w.grownBy w' row) (hne : v.ownBlock = none ∨ v.ownBlock ≠ row) : OwC w' base v cs := ⟨h.1.kept hg hne, h.2⟩
theorem OwR.below (h : OwR w base v ps) (hb : Below B w w') (hB : w.heap.size ≤ B) : OwR w' base v ps := own_below h hb hB
theorem OwP.below (h : OwP w base v ps) (hb : Below B w w') (hB : w.heap.size ≤ B) : OwP w' base v ps := ⟨own_below h.row hb hB, fun x hx => (h.cmps x hx).below hb hB, h.apart⟩
theorem OwP.mono (h : OwP w base v ps) (hb : b' ≤ base) : OwP w b' v ps := ⟨own_mono h.row hb, fun x hx => (h.cmps x hx).mono hb, h.apart⟩
theorem OwP.nil (w : World) (base : Nat) : OwP w base (.slice none 0 0) [] := ⟨World.ownsRow_nil w base _ _, by simp, List.Pairwise.nil⟩
theorem OwP.form (h : OwP w base v ps) : ∃ A cap, v = .slice A ps.length cap := own_form h.row
/-- How what is owned reads. -/
theorem rd_of_row (h : OwR w base v ps) (hc : ∀ x ∈ ps, RdC w w.heap.size x.2 x.1.cmps) : RdS w w.heap.size v (ps.map (·.1)) := by
  have h1 : RdL 6 (fun w B (x : Sp × Value) cs => cs = spc x ∧ RdC w B x.2 x.1.cmps) w w.heap.size v ps := own_rd sp_len h fun x hx => ⟨rfl, hc x hx⟩
  obtain ⟨A, cap, b, off, h1, h2, h3, h4, h5⟩ := h1
  refine ⟨A, cap, b, off, by simpa using h1, by simpa using h2, h3, by simpa using h4, fun i s hs => ?_⟩
  simp only [List.getElem?_map, Option.map_eq_some_iff] at hs
  obtain ⟨x, hx, rfl⟩ := hs
  obtain ⟨cs, ⟨rfl, hr⟩, hat⟩ := h5 i x hx
  exact ⟨_, ⟨x.2, rfl, hr⟩, hat⟩
theorem OwP.rd (h : OwP w base v ps) : RdS w w.heap.size v (ps.map (·.1)) := rd_of_row h.row fun x hx => (h.cmps x hx).rd

/-- A field of a step is written. -/
theorem OwP.write {i j : Nat} {x : Sp × Value} {s' : Sp} {u : Value} {n cap g : Nat} (h : OwP w base (.slice (some ⟨g, 0, none⟩) n cap) ps) (hx : ps[i]? = some x) (hj : j < 6)
    (hy : spc (s', x.2) = (spc x).set j u) (hcm : s'.cmps = x.1.cmps) : OwP (w.setCell ⟨g, i * 6 + j, none⟩ u) base (.slice (some ⟨g, 0, none⟩) n cap) (ps.set i (s', x.2)) := by
  have hn : n = ps.length := by
    obtain ⟨A, c, e⟩ := h.form
    injection e
  subst hn
  have hb : ∀ y ∈ ps, y.2.ownBlock = none ∨ y.2.ownBlock ≠ some g := fun y hy => own_ne (h.cmps y hy).1 h.row (by decide)
  have hst := World.ownsRow.stored h.row (i * 6 + j) u
  refine ⟨?_, fun y hyy => ?_, ?_⟩
  · have := hst.1
    rw [flat_set sp_len hx hj hy] at this
    simpa [OwR] using this
  · rcases List.mem_or_eq_of_mem_set hyy with hm | rfl
    · exact (h.cmps y hm).kept hst.2 (hb y hm)
    · have hm := List.mem_of_getElem? hx
      simp only [hcm]
      exact (h.cmps x hm).kept hst.2 (hb x hm)
  · have hmap : (ps.set i (s', x.2)).map (·.2) = ps.map (·.2) := by
      rw [List.map_set]
      apply List.ext_getElem?
      intro k
      by_cases hk : i = k
      · subst hk
        simp [List.getElem?_set, hx]
        exact (List.getElem?_eq_some_iff.1 hx).1
      · rw [List.getElem?_set_ne hk]
    have ha : (ps.map (·.2)).Pairwise fun a b => a.ownBlock = none ∨ a.ownBlock ≠ b.ownBlock := List.pairwise_map.2 h.apart
    rw [← hmap] at ha
    exact List.pairwise_map.1 ha
end
end Go.Proofs.Ytidddeobachjgaa
