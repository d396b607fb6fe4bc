/- Several texts of one proof: A pattern's automaton as plain data, and what it tells: what hangs on the shape of a pattern alone is asked of all shapes. No program. | The negative steps between two: the walks of nfa.negatives and of its iterator. -/
import Derived.Test.YtmmbblfmhcegcaaGreatM15
import Derived.Test.YtmmbblfmhcegcaaGreatM16
import Derived.Test.YtmmbblfmhcegcaaGreatM08
import Derived.Test.YtmmbblfmhcegcaaGreatM14

namespace Go.Proofs.YtmmbblfmhcegcaaGreat

/-- The negative steps behind number f, of the first k. -/
def notsTo (p : List Sp) (f k : Nat) : List Int := ((List.range k).filter fun i => decide (f < i) && (stepAt p i).neg).map fun (i : Nat) => (i : Int)
def rowAt (row : List Int) (k : Nat) : Int := row.getD k 0
def newSt (p : List Sp) (row : List Int) (k : Nat) (ahead : Int) : St := ⟨rowAt row k, k, (stepAt p (rowAt row k).toNat).strict, if k = 0 then [] else notsTo p (rowAt row (k - 1)).toNat (rowAt row k).toNat, ahead, false⟩
def goK (p : List Sp) (row : List Int) (q : List St × Int) (k : Nat) : List St × Int :=
  if findS q.1 q.2 (rowAt row k) < 0 then (q.1 ++ [newSt p row k q.2], (q.1.length : Int)) else (q.1, findS q.1 q.2 (rowAt row k))
def goRow (p : List Sp) (l : List St) (row : List Int) (k : Nat) : List St × Int := (List.range k).foldl (goK p row) (l, -1)
def setLast (l : List St) (i : Nat) : List St := l.modify i fun s => { s with last := true }
def addRow (p : List Sp) (l : List St) (row : List Int) : List St := setLast (goRow p l row row.length).1 (goRow p l row row.length).2.toNat
/-- The states of a pattern's automaton, its rows being given. -/
def addRows (p : List Sp) (rs : List (List Int)) : List St := rs.foldl (addRow p) []
def newL (p : List Sp) : List St := addRows p (rowsL p 0 [])
def posLast (p : List Sp) : Nat := ((positive p).getLastD 0).toNat
def afterL (p : List Sp) : List Int := notsTo p (posLast p) p.length
/-- The rows with a step more, as often as it may come. -/
def longerL (rows : List (List Int)) (i : Nat) (s : Sp) : List (List Int) := rows.flatMap fun r => ((List.range s.max.toNat).filter fun (n : Nat) => decide (s.min ≤ (n : Int) + 1)).map fun (n : Nat) => r ++ List.replicate (n + 1) (i : Int)
def refTo (p : List Sp) (k : Nat) : List (List Int) := (List.range k).foldl (fun rows i => if (stepAt p i).neg then rows else longerL rows i (stepAt p i)) [[]]
def refRows (p : List Sp) : List (List Int) := refTo p p.length

/-! ### what hangs on the shape alone -/
abbrev Sh := List (Option (Nat × Nat))
def toSp : Option (Nat × Nat) → Sp
  | none => ⟨true, 0, 1, 1, false, []⟩
  | some (a, b) => ⟨false, 0, a, b, false, []⟩
def toP (sh : Sh) : List Sp := sh.map toSp
def shapes : Nat → Nat → List Sh
  | 0, _ => [[]]
  | n + 1, b => [] :: ((shapes n b).map (none :: ·) ++ (List.range 3).flatMap fun m => if m < b then (shapes n (b - (m + 1))).flatMap fun t => (List.range (m + 1)).map fun a => some (a + 1, m + 1) :: t else [])
def stepOf (l : List St) (i : Int) : Int := ((l[i.toNat]?).map (·.step)).getD 0
def okSt (p : List Sp) (l : List St) (i : Nat) (s : St) : Bool :=
  decide ((wayL l i).length = s.place + 1) && (decide ((wayL l i).getLastD 0 = s.step) && (((List.range i).all fun (k : Nat) => decide (wayL l k ≠ wayL l i)) && (decide (0 ≤ s.step) && (decide (s.step < p.length) &&
  (!(stepAt p s.step.toNat).neg && (decide (s.place ≤ 100) && (decide (0 ≤ s.place) && (decide (s.guards.length ≤ 10) &&
  ((List.range p.length).all fun (k : Nat) => decide ((k : Int) ∈ s.guards) == (decide (0 ≤ s.ahead) && (stepAt p k).neg && decide (stepOf l s.ahead < (k : Int)) && decide ((k : Int) < s.step)))))))))))
def okFacts (p : List Sp) (l : List St) (a : List Int) : Bool :=
  autoR l && (decide (l.length ≤ 100) && (decide (rowsA l l.length = rowsL p 0 []) && (decide (refRows p = rowsL p 0 []) &&
  (((List.range l.length).all fun i => match l[i]? with | some s => okSt p l i s | none => true) &&
  (decide (a.length ≤ 10) && (((List.range p.length).all fun (k : Nat) => decide ((k : Int) ∈ a) == ((stepAt p k).neg && decide (posLast p < k))) &&
  (((rowsL p 0 []).all fun r => decide (r ≠ []) && decide (r.length ≤ 20) && r.all fun x => decide (0 ≤ x) && decide (x < p.length)) &&
  (decide ((rowsL p 0 []).length ≤ 1000) && decide (positive p ≠ [] ∧ posLast p < p.length)))))))))
def okShape (sh : Sh) : Bool := match sh with
  | some x :: r => okFacts (toP (some x :: r)) (newL (toP (some x :: r))) (afterL (toP (some x :: r)))
  | _ => true

theorem mem_shapes : ∀ (n b : Nat) (sh : Sh), sh.length ≤ n → (∀ a m, some (a, m) ∈ sh → 1 ≤ a ∧ a ≤ m ∧ m ≤ 3) → (sh.map fun o => (o.map (·.2)).getD 0).sum ≤ b → sh ∈ shapes n b
  | 0, b, sh, hl, _, _ => by
    have := List.eq_nil_of_length_eq_zero (show sh.length = 0 by omega)
    subst this
    simp [shapes]
  | n + 1, b, [], _, _, _ => by simp [shapes]
  | n + 1, b, none :: r, hl, hv, hs => by
    have := mem_shapes n b r (by simpa using hl) (fun a m h => hv a m (List.mem_cons_of_mem _ h)) (by simpa using hs)
    simp [shapes, this]
  | n + 1, b, some (a, m) :: r, hl, hv, hs => by
    obtain ⟨h1, h2, h3⟩ := hv a m (List.mem_cons_self ..)
    simp only [List.map_cons, List.sum_cons, Option.map_some, Option.getD_some] at hs
    have := mem_shapes n (b - m) r (by simpa using hl) (fun a m h => hv a m (List.mem_cons_of_mem _ h)) (by omega)
    simp only [shapes, List.mem_cons, List.mem_append, List.mem_flatMap, List.mem_range]
    refine .inr (.inr ⟨m - 1, by omega, ?_⟩)
    rw [if_pos (by omega), show m - 1 + 1 = m by omega]
    simp only [List.mem_flatMap, List.mem_map, List.mem_range]
    exact ⟨r, this, a - 1, by omega, by rw [show a - 1 + 1 = a by omega]⟩

/-! ### patterns of one shape -/
def key (s : Sp) : Option (Int × Int) := if s.neg then none else some (s.min, s.max)
def Sim (p q : List Sp) : Prop := p.map key = q.map key
theorem Sim.len {p q : List Sp} (h : Sim p q) : p.length = q.length := by simpa using congrArg List.length h
theorem key_neg {s t : Sp} (h : key s = key t) : s.neg = t.neg ∧ (s.neg = false → s.min = t.min ∧ s.max = t.max) := by
  unfold key at h
  cases hs : s.neg <;> cases ht : t.neg <;> simp [hs, ht] at h ⊢
  exact h
theorem Sim.at_ {p q : List Sp} (h : Sim p q) (k : Nat) : key (stepAt p k) = key (stepAt q k) := by
  have := congrArg (fun l : List (Option (Int × Int)) => l[k]?) h
  simp only [List.getElem?_map] at this
  simp only [stepAt, List.getD_eq_getElem?_getD]
  cases hp : p[k]? <;> cases hq : q[k]? <;> simp [hp, hq] at this ⊢
  exact this
theorem Sim.neg {p q : List Sp} (h : Sim p q) (k : Nat) : (stepAt p k).neg = (stepAt q k).neg := (key_neg (h.at_ k)).1
theorem Sim.rows : ∀ {p q : List Sp}, Sim p q → ∀ (i : Nat) (a : List Int), rowsL p i a = rowsL q i a
  | [], [], _, _, _ => rfl
  | [], _ :: _, h, _, _ => by simp [Sim] at h
  | _ :: _, [], h, _, _ => by simp [Sim] at h
  | s :: p, t :: q, h, i, a => by
    simp only [Sim, List.map_cons, List.cons.injEq] at h
    obtain ⟨h1, h2⟩ := key_neg h.1
    have ih := Sim.rows (p := p) (q := q) h.2
    simp only [rowsL, ← h1]
    cases hs : s.neg with
    | true => simp [ih]
    | false =>
      obtain ⟨e1, e2⟩ := h2 hs
      simp [ih, e1, e2]
theorem Sim.nots {p q : List Sp} (h : Sim p q) (f k : Nat) : notsTo p f k = notsTo q f k := by
  simp only [notsTo, h.neg]
theorem Sim.pos : ∀ {p q : List Sp}, Sim p q → ∀ i, posFrom i p = posFrom i q
  | [], [], _, _ => rfl
  | [], _ :: _, h, _ => by simp [Sim] at h
  | _ :: _, [], h, _ => by simp [Sim] at h
  | s :: p, t :: q, h, i => by
    simp only [Sim, List.map_cons, List.cons.injEq] at h
    simp only [posFrom, (key_neg h.1).1, Sim.pos (p := p) (q := q) h.2]
theorem Sim.longer {p q : List Sp} (h : Sim p q) (i : Nat) (rows : List (List Int)) : (if (stepAt p i).neg then rows else longerL rows i (stepAt p i)) = (if (stepAt q i).neg then rows else longerL rows i (stepAt q i)) := by
  obtain ⟨h1, h2⟩ := key_neg (h.at_ i)
  rw [← h1]
  cases hs : (stepAt p i).neg with
  | true => rfl
  | false =>
    obtain ⟨e1, e2⟩ := h2 hs
    simp only [longerL, e1, e2]
theorem Sim.ref {p q : List Sp} (h : Sim p q) : refRows p = refRows q := by
  simp only [refRows, refTo, h.len]
  congr 1
  funext rows i
  exact h.longer i rows

/-- A state with the strictness of p's step. -/
def fx (p : List Sp) (s : St) : St := { s with strict := (stepAt p s.step.toNat).strict }
section
variable {p q : List Sp}
theorem find_fx (l : List St) (a s : Int) : findS (l.map (fx p)) a s = findS l a s := by
  simp only [findS]
  rw [List.findIdx?_map]
  rfl
theorem new_fx (h : Sim p q) (row : List Int) (k : Nat) (a : Int) : newSt p row k a = fx p (newSt q row k a) := by
  simp only [newSt, fx, h.nots]
theorem goK_fx (h : Sim p q) (row : List Int) (l : List St) (a : Int) (k : Nat) : goK p row (l.map (fx p), a) k = ((goK q row (l, a) k).1.map (fx p), (goK q row (l, a) k).2) := by
  simp only [goK, find_fx]
  split
  · simp [new_fx h]
  · rfl
theorem goRow_fx (h : Sim p q) (l : List St) (row : List Int) (k : Nat) : goRow p (l.map (fx p)) row k = ((goRow q l row k).1.map (fx p), (goRow q l row k).2) := by
  induction k with
  | zero => rfl
  | succ k ih =>
    simp only [goRow, List.range_succ, List.foldl_append, List.foldl_cons, List.foldl_nil] at ih ⊢
    rw [ih, goK_fx h]
theorem setLast_fx (l : List St) (i : Nat) : setLast (l.map (fx p)) i = (setLast l i).map (fx p) := by
  apply List.ext_getElem?
  intro j
  simp only [setLast, List.getElem?_modify, List.getElem?_map]
  cases l[j]? with
  | none => rfl
  | some s => by_cases e : i = j <;> simp [e, fx]
theorem addRow_fx (h : Sim p q) (l : List St) (row : List Int) : addRow p (l.map (fx p)) row = (addRow q l row).map (fx p) := by
  simp only [addRow, goRow_fx h, setLast_fx]
theorem addRows_fx (h : Sim p q) (rs : List (List Int)) : addRows p rs = (addRows q rs).map (fx p) := by
  have : ∀ (rs : List (List Int)) (l : List St), rs.foldl (addRow p) (l.map (fx p)) = (rs.foldl (addRow q) l).map (fx p) := by
    intro rs
    induction rs with
    | nil => intro l; rfl
    | cons r rs ih => intro l; rw [List.foldl_cons, List.foldl_cons, addRow_fx h, ih]
  exact this rs []
theorem newL_fx (h : Sim p q) : newL p = (newL q).map (fx p) := by rw [newL, h.rows, addRows_fx h]; rfl
theorem place_fx (l : List St) (i : Nat) : placeAt (l.map (fx p)) i = placeAt l i := by
  simp only [placeAt, List.getElem?_map, Option.map_map]
  rfl
theorem step_fx (l : List St) (i : Int) : stepOf (l.map (fx p)) i = stepOf l i := by
  simp only [stepOf, List.getElem?_map, Option.map_map]
  rfl
theorem okAt_fx (l : List St) (i : Nat) (s : St) : okAt (l.map (fx p)) i (fx p s) = okAt l i s := by
  simp only [okAt, place_fx]
  rfl
theorem all_fx (l : List St) {f g : Nat → St → Bool} (h : ∀ i s, f i (fx p s) = g i s) : ((List.range (l.map (fx p)).length).all fun i => match (l.map (fx p))[i]? with | some s => f i s | none => true) = ((List.range l.length).all fun i => match l[i]? with | some s => g i s | none => true) := by
  rw [List.length_map]
  congr 1
  funext i
  rw [List.getElem?_map]
  cases l[i]? with
  | none => rfl
  | some s => exact h i s
theorem auto_fx (l : List St) : autoR (l.map (fx p)) = autoR l := all_fx l fun i s => okAt_fx l i s
theorem wayF_fx (l : List St) : ∀ (n : Nat) (a : Int), wayF (l.map (fx p)) n a = wayF l n a
  | 0, _ => rfl
  | n + 1, a => by
    simp only [wayF, List.getElem?_map]
    split
    · rfl
    · cases l[a.toNat]? with
      | none => rfl
      | some s => simp [fx, wayF_fx l n]
theorem wayL_fx (l : List St) (a : Int) : wayL (l.map (fx p)) a = wayL l a := by rw [wayL, wayF_fx]; rfl
theorem rowsA_fx (l : List St) (k : Nat) : rowsA (l.map (fx p)) k = rowsA l k := by
  simp only [rowsA, wayL_fx, List.getElem?_map, Option.map_map]
  rfl
theorem okSt_fx (h : Sim p q) (l : List St) (i : Nat) (s : St) : okSt p (l.map (fx p)) i (fx p s) = okSt q l i s := by
  simp only [okSt, wayL_fx, h.len, h.neg, step_fx]
  rfl
theorem facts_fx (h : Sim p q) : okFacts p (newL p) (afterL p) = okFacts q (newL q) (afterL q) := by
  have e0 : afterL p = afterL q := by simp only [afterL, posLast, positive, h.pos, h.len, h.nots]
  have e1 : posLast p = posLast q := by simp only [posLast, positive, h.pos]
  have e2 : positive p = positive q := h.pos 0
  rw [newL_fx h, e0]
  have ha := all_fx (newL q) fun i s => okSt_fx h (newL q) i s
  simp only [okFacts, ha]
  simp only [auto_fx, List.length_map, rowsA_fx, h.rows, h.ref, e1, h.len, h.neg, e2]
end

theorem all_ok : (shapes 6 4).all okShape = true := by decide +kernel

/-- What a pattern's automaton is. -/
structure Facts (p : List Sp) (l : List St) (a : List Int) : Prop where
  auto : autoR l = true
  len : l.length ≤ 100
  rows : rowsA l l.length = rowsL p 0 []
  ref : refRows p = rowsL p 0 []
  long : ∀ (i : Nat) (s : St), l[i]? = some s → ((wayL l i).length : Int) = s.place + 1
  step : ∀ (i : Nat) (s : St), l[i]? = some s → (wayL l i).getLastD 0 = s.step
  apart : ∀ i k : Nat, i < l.length → k < i → wayL l k ≠ wayL l i
  steps : ∀ (i : Nat) (s : St), l[i]? = some s → 0 ≤ s.step ∧ s.step < p.length ∧ (stepAt p s.step.toNat).neg = false ∧ 0 ≤ s.place ∧ s.place ≤ 100 ∧ s.guards.length ≤ 10
  strict : ∀ (i : Nat) (s : St), l[i]? = some s → s.strict = (stepAt p s.step.toNat).strict
  guards : ∀ (i : Nat) (s : St) (k : Nat), l[i]? = some s → k < p.length → decide ((k : Int) ∈ s.guards) = (decide (0 ≤ s.ahead) && (stepAt p k).neg && decide (stepOf l s.ahead < (k : Int)) && decide ((k : Int) < s.step))
  alen : a.length ≤ 10
  after : ∀ k : Nat, k < p.length → decide ((k : Int) ∈ a) = ((stepAt p k).neg && decide (posLast p < k))
theorem facts_of {p q : List Sp} (h : Sim p q) (hf : okFacts q (newL q) (afterL q) = true) : Facts p (newL p) (afterL p) := by
  rw [← facts_fx h] at hf
  have hfx := newL_fx h
  simp only [okFacts, Bool.and_eq_true, decide_eq_true_eq, List.all_eq_true, List.mem_range] at hf
  obtain ⟨h1, h2, h3, h4, h5, h6, h7, -, -, -⟩ := hf
  have each : ∀ i s, (newL p)[i]? = some s → okSt p (newL p) i s = true := by
    intro i s hs
    have := h5 i (List.getElem?_eq_some_iff.1 hs).1
    rw [hs] at this
    exact this
  simp only [okSt, Bool.and_eq_true, decide_eq_true_eq, List.all_eq_true, List.mem_range, Bool.not_eq_true'] at each
  refine ⟨h1, h2, h3, h4, fun i s hs => (each i s hs).1, fun i s hs => (each i s hs).2.1, fun i k hi hk => ?_, fun i s hs => ?_, fun i s hs => ?_, fun i s k hs hk => ?_, h6, fun k hk => eq_of_beq (h7 k hk)⟩
  · exact (each i _ (List.getElem?_eq_getElem hi)).2.2.1 k hk
  · obtain ⟨-, -, -, a1, a2, a3, a4, a5, a6, -⟩ := each i s hs
    exact ⟨a1, a2, a3, a5, a4, a6⟩
  · rw [hfx, List.getElem?_map, Option.map_eq_some_iff] at hs
    obtain ⟨t, -, rfl⟩ := hs
    rfl
  · exact eq_of_beq ((each i s hs).2.2.2.2.2.2.2.2.2 k hk)
/-- What a pattern's rows are. -/
structure RowsOk (p : List Sp) : Prop where
  some_ : ∀ r ∈ rowsL p 0 [], r ≠ [] ∧ r.length ≤ 20 ∧ ∀ x ∈ r, 0 ≤ x ∧ x < p.length
  len : (rowsL p 0 []).length ≤ 1000
  pos : positive p ≠ []
  last : posLast p < p.length
theorem rows_of {p q : List Sp} (h : Sim p q) (hf : okFacts q (newL q) (afterL q) = true) : RowsOk p := by
  rw [← facts_fx h] at hf
  simp only [okFacts, Bool.and_eq_true, decide_eq_true_eq, List.all_eq_true, List.mem_range] at hf
  obtain ⟨-, -, -, -, -, -, -, h8, h9, h10⟩ := hf
  exact ⟨fun r hr => ⟨(h8 r hr).1.1, (h8 r hr).1.2, (h8 r hr).2⟩, h9, h10.1, h10.2⟩

def shOf (p : List Sp) : Sh := p.map fun s => if s.neg then none else some (s.min.toNat, s.max.toNat)
/-- What is asked of a pattern, here. -/
structure Plain (p : List Sp) : Prop where
  len : p.length ≤ 6
  first : ∃ s r, p = s :: r ∧ s.neg = false
  each : ∀ s ∈ p, s.neg = false → 1 ≤ s.min ∧ s.min ≤ s.max ∧ s.max ≤ 3
  long : (p.map fun s => if s.neg then 0 else s.max).sum ≤ 4
theorem Plain.sim {p : List Sp} (h : Plain p) : Sim p (toP (shOf p)) := by
  simp only [Sim, toP, shOf, List.map_map]
  apply List.map_congr_left
  intro s hs
  cases hn : s.neg with
  | true => simp [key, hn, toSp]
  | false =>
    obtain ⟨h1, h2, h3⟩ := h.each s hs hn
    simp only [Function.comp, key, hn, toSp, Bool.false_eq_true, if_false, Option.some.injEq, Prod.mk.injEq]
    omega
theorem sum_nat : ∀ (p : List Sp), (∀ s ∈ p, s.neg = false → 0 ≤ s.max) → ((((shOf p).map fun o => (o.map (·.2)).getD 0).sum : Nat) : Int) = (p.map fun s => if s.neg then 0 else s.max).sum
  | [], _ => rfl
  | s :: p, h => by
    have ih := sum_nat p fun t ht => h t (List.mem_cons_of_mem _ ht)
    have h0 := h s (List.mem_cons_self ..)
    simp only [shOf, List.map_cons, List.sum_cons] at ih ⊢
    rw [Int.natCast_add, ih]
    congr 1
    cases hn : s.neg with
    | true => simp
    | false =>
      simp only [Bool.false_eq_true, if_false, Option.map_some, Option.getD_some]
      have := h0 hn
      omega
theorem Plain.ok {p : List Sp} (h : Plain p) : okFacts (toP (shOf p)) (newL (toP (shOf p))) (afterL (toP (shOf p))) = true := by
  have hm : shOf p ∈ shapes 6 4 := by
    refine mem_shapes 6 4 _ (by simpa [shOf] using h.len) ?_ ?_
    · intro a m hm
      obtain ⟨s, hs, e⟩ := List.mem_map.1 hm
      cases hn : s.neg with
      | true => simp [hn] at e
      | false =>
        obtain ⟨h1, h2, h3⟩ := h.each s hs hn
        simp only [hn, Bool.false_eq_true, if_false, Option.some.injEq, Prod.mk.injEq] at e
        omega
    · have := sum_nat p fun s hs hn => by have := h.each s hs hn; omega
      have := h.long
      omega
  have := List.all_eq_true.1 all_ok _ hm
  obtain ⟨s, r, rfl, hn⟩ := h.first
  simpa [okShape, shOf, hn] using this
theorem Plain.facts {p : List Sp} (h : Plain p) : Facts p (newL p) (afterL p) := facts_of h.sim h.ok
theorem Plain.rows {p : List Sp} (h : Plain p) : RowsOk p := rows_of h.sim h.ok

theorem may_plain {p : List Sp} {win : Int} (h : mayB p win = true) : Plain p := by
  obtain ⟨h0, h1, -, -, h4, h5⟩ := may_whole h
  refine ⟨h1, ?_, fun s hs hn => ?_, h5⟩
  · cases p with
    | nil => simp at h0
    | cons s r => exact ⟨s, r, rfl, (h4 s rfl).1⟩
  · obtain ⟨k, hk⟩ := List.getElem?_of_mem hs
    have := may_step h hk
    exact ⟨this.m1, this.m2, this.m3⟩
end Go.Proofs.YtmmbblfmhcegcaaGreat

namespace Go.Proofs.YtmmbblfmhcegcaaGreat
open Go.RowKit Go.Shelf
attribute [local go_sem] Oper.semAt_some

theorem negatives_any (A : Option Addr) (m c : Nat) (win f t : Int) (w : World) : Calls Tryz.prog 26 #[ptV (.slice A m c) win, .int .i64 f, .int .i64 t] w fun e w' =>
    e = .returned (.func (.func 39) #[] #[.pointer (some ⟨w.heap.size + 1, 0, none⟩), .pointer (some ⟨w.heap.size + 1 + 1, 0, none⟩), .pointer (some ⟨w.heap.size, 0, none⟩)]) ∧
      w' = ((w.alloc (.cells #[.slice A m c, .int .i64 win] 24)).alloc (.cells #[.int .i64 f] 3)).alloc (.cells #[.int .i64 t] 3) := by
  go_enter Tryz.func26, Tryz.ntmps26
  go_wp2
  go_ret
  exact ⟨rfl, rfl⟩

theorem notsTo_succ (p : List Sp) (f k : Nat) : notsTo p f (k + 1) = notsTo p f k ++ (if f < k ∧ (stepAt p k).neg = true then [(k : Int)] else []) := by
  simp only [notsTo, List.range_succ, List.filter_append, List.map_append, List.filter_cons, List.filter_nil]
  by_cases h : f < k <;> cases h2 : (stepAt p k).neg <;> simp [h]
theorem notsTo_nil (p : List Sp) (f k : Nat) (h : k ≤ f + 1) : notsTo p f k = [] := by
  induction k with
  | zero => rfl
  | succ k ih => rw [notsTo_succ, ih (by omega), if_neg (by omega), List.append_nil]
theorem notsTo_prefix (p : List Sp) (f : Nat) {k t : Nat} (h : k ≤ t) : notsTo p f k <+: notsTo p f t := by
  induction t with
  | zero => rw [show k = 0 by omega]; exact List.prefix_refl _
  | succ t ih =>
    by_cases e : k = t + 1
    · subst e
      exact List.prefix_refl _
    · exact (ih (by omega)).trans (by rw [notsTo_succ]; exact List.prefix_append _ _)
theorem notsTo_len (p : List Sp) (f k : Nat) : (notsTo p f k).length ≤ k := by
  have := List.length_filter_le (fun (i : Nat) => decide (f < i) && (stepAt p i).neg) (List.range k)
  simp only [notsTo, List.length_map, List.length_range] at this ⊢
  exact this
theorem stepAt_eq {p : List Sp} {k : Nat} {s : Sp} (h : p[k]? = some s) : stepAt p k = s := by
  simp [stepAt, List.getD_eq_getElem?_getD, h]

/-- The blocks below n, and three from b on, are as they were. -/
def KpN (n b : Nat) (A B : World) : Prop := Below n A B ∧ ∀ k, b ≤ k → k < b + 3 → B.heap[k]? = A.heap[k]?
theorem KpN.refl (n b : Nat) (A : World) : KpN n b A A := ⟨Below.refl _ _, fun _ _ _ => rfl⟩
theorem KpN.trans {n b : Nat} {A B C : World} (h : KpN n b A B) (k : KpN n b B C) : KpN n b A C := ⟨h.1.trans k.1, fun j h1 h2 => (k.2 j h1 h2).trans (h.2 j h1 h2)⟩
theorem KpN.blk {n b g : Nat} {A B : World} {t : TypeId} {cs : Array Value} (h : KpN n b A B) (hb : Blk A g t cs) (h1 : b ≤ g) (h2 : g < b + 3) : Blk B g t cs := (h.2 g h1 h2).trans hb
theorem KpN.putObj {n b m : Nat} (hn : n ≤ m) (hb : b + 3 ≤ m) (W : World) (l : Nat) (o o' : Obj) (hl : m ≤ l) (_ : W.heap[l]? = some o) (_ : o.isCells = false) (_ : o.isWalk = false) : KpN n b W (W.putObj l o') :=
  ⟨⟨rfl, rfl, rfl, by simp [World.putObj], fun k hk => World.putObj_heap_other (by omega)⟩, fun k _ h2 => World.putObj_heap_other (by omega)⟩

set_option maxRecDepth 100000 in
set_option maxHeartbeats 2000000 in
theorem negs_in (n : Nat) (hn : 1 ≤ n) (l n0 B : Nat) (p : List Sp) (f t : Nat) (win : Int) (sv : Value) (J Jx : List Int → World → Prop) (W : World) (_ : AbidesFrom W.heap.size J) (ht : t ≤ p.length) (hf : f ≤ 1000000)
    (hbp : Blk W B 24 #[sv, .int .i64 win]) (hbf : Blk W (B + 1) 3 #[.int .i64 f]) (hbt : Blk W (B + 1 + 1) 3 #[.int .i64 t]) (hrd : RdS W n0 sv p)
    (hY : ∀ pre x W, J pre W → pre.length < (notsTo p f t).length → YieldAt Fence.wide (n - 1) Tryz.prog l #[.int .i64 x] W fun e W' =>
      (e = .returned (.bool true) ∧ J (pre ++ [x]) W' ∧ KpN n0 B W W') ∨ (e = .returned (.bool false) ∧ Jx (pre ++ [x]) W'))
    (h0 : J [] W) :
    CallsIn Fence.wide n Tryz.prog 39 #[.func (.yield l) #[] #[], .pointer (some ⟨B + 1, 0, none⟩), .pointer (some ⟨B + 1 + 1, 0, none⟩), .pointer (some ⟨B, 0, none⟩)] W fun e W' => (∃ v, e = .returned v) ∧
      ((∃ ys, ys = notsTo p f t ∧ J ys W') ∨ (∃ pre, pre <+: notsTo p f t ∧ Jx pre W')) := by
  have hro : Fence.wide.round = none := rfl
  obtain ⟨A, cap, b, off, rfl, h2, h3, h4, h5⟩ := hrd
  have e1 := hbf.one
  have hYh := hide hY
  clear hY
  have hw0 : IntKind.i64.wrap ((f : Int) + 1) = (f : Int) + 1 := IntWalk.i64_in _ (by omega)
  refine callsIn_of_wp Tryz.func39 rfl trivial ?_ rfl
  simp only [Tryz.ntmps39, List.size_toArray, List.length_cons, List.length_nil, Nat.reduceAdd, Nat.reduceSub, Array.replicate_succ, Array.replicate_zero, List.push_toArray, List.append_toArray, List.nil_append, List.cons_append]
  gi_wp2
  clear e1
  gi_loopw [5] (fun i wr => ∃ k : Nat, f + 1 ≤ k ∧ k ≤ max t (f + 1) ∧ i = .int .i64 k ∧ J (notsTo p f k) wr ∧ KpN n0 B W wr) (fun i _ => t - (intOf i).toNat)
  case atStart => exact ⟨f + 1, by omega, by omega, rfl, by rw [notsTo_nil _ _ _ (Nat.le_refl _)]; exact h0, KpN.refl _ _ _⟩
  case round =>
    obtain ⟨k, hfk, hk, rfl, hJk, hB⟩ := hrel
    have e2 := (hB.blk hbt (by omega) (by omega)).one
    by_cases hlt : k < t
    · obtain ⟨rfl, hb⟩ := h4 (by omega)
      have hx := List.getElem?_eq_getElem (show k < p.length by omega)
      obtain ⟨cs, ⟨cv, rfl, hcv⟩, hat⟩ := h5 k p[k] hx
      obtain ⟨c0, c1, c2, c3, c4, c5⟩ := (hat.below hB.1 hb).c6
      have e0 := (hB.blk hbp (by omega) (by omega)).cell 0
      simp at e0
      have hsn := hide (notsTo_succ p f k)
      rw [stepAt_eq hx] at hsn
      have hpf := hide (notsTo_prefix p f (show k + 1 ≤ t by omega))
      clear hat h5 hcv c1 c2 c3 c4 c5
      generalize p[k] = s at *
      have hw1 : IntKind.i64.wrap ((k : Int) + 1) = (k : Int) + 1 := IntWalk.i64_in _ (by omega)
      have hkt : (k : Int) < t := by omega
      have hkp : (k : Int) < p.length := by omega
      generalize hL : notsTo p f k = L at *
      clear hL
      obtain ⟨neg, kind, mn, mx, strict, cmps⟩ := s
      simp only at c0 hsn
      cases neg with
      | true =>
        have hsn2 := hide (show notsTo p f (k + 1) = L ++ [(k : Int)] by rw [hsn.out, if_pos ⟨by omega, rfl⟩])
        clear hsn
        have hlen : L.length < (notsTo p f t).length := by
          have := hpf.out.length_le
          rw [hsn2.out] at this
          simp at this
          omega
        rw [hsn2.out] at hpf
        obtain ⟨fn2, tmps2, assign2, body2, hy2, hR2⟩ := hYh.out _ (k : Int) wr hJk hlen
        gi_wp2
        refine hR2.mono ?_
        rintro e W3 (⟨rfl, hJ3, hk3⟩ | ⟨rfl, hJx3⟩)
        · gi_wp2_with (refine ⟨fun _ _ => trivial, ?_⟩)
          exact ⟨⟨k + 1, by omega, by omega, rfl, by rw [hsn2.out]; exact hJ3, hB.trans hk3⟩, by simp [intOf]; omega⟩
        · gi_wp2_with (refine ⟨fun _ _ => trivial, ?_⟩)
          refine bodyPost_ret (results_none rfl _ _ _) rfl ?_
          exact ⟨⟨_, rfl⟩, .inr ⟨_, by simpa using hpf.out, hJx3⟩⟩
      | false =>
        have hsn2 := hide (show notsTo p f (k + 1) = L by rw [hsn.out, if_neg (by simp), List.append_nil])
        clear hsn
        gi_wp2
        gi_wp2_with (refine ⟨fun _ _ => trivial, ?_⟩)
        exact ⟨⟨k + 1, by omega, by omega, rfl, by rw [hsn2.out]; exact hJk, hB⟩, by simp [intOf]; omega⟩
    · have hend : notsTo p f k = notsTo p f t := by
        by_cases e : k = t
        · rw [e]
        · rw [notsTo_nil p f k (by omega), notsTo_nil p f t (by omega)]
      rw [hend] at hJk
      have hkt : ¬ ((k : Int) < t) := by omega
      clear h4 h5 hend
      gi_wp2
      go_end0
      exact ⟨⟨_, rfl⟩, .inl hJk⟩

theorem negs_stops (n : Nat) (hn : 1 ≤ n) (n0 B : Nat) (p : List Sp) (f t : Nat) (win : Int) (sv : Value) (w : World) (hn0 : n0 ≤ w.heap.size) (ht : t ≤ p.length) (hf : f ≤ 1000000)
    (hbp : Blk w B 24 #[sv, .int .i64 win]) (hbf : Blk w (B + 1) 3 #[.int .i64 f]) (hbt : Blk w (B + 1 + 1) 3 #[.int .i64 t]) (hrd : RdS w n0 sv p) :
    SeqStopsK Fence.wide n Tryz.prog 39 #[.pointer (some ⟨B + 1, 0, none⟩), .pointer (some ⟨B + 1 + 1, 0, none⟩), .pointer (some ⟨B, 0, none⟩)] (fun x : Int => #[Value.int .i64 x]) (KpN n0 B) (fun ys => ys = notsTo p f t) (fun pre => pre <+: notsTo p f t) (notsTo p f t).length w := fun l J Jx W hW hJ _ hY h0 =>
  negs_in n hn l n0 B p f t win sv J Jx W hJ ht hf (hbp.below hW hbp.lt) (hbf.below hW hbf.lt) (hbt.below hW hbt.lt) (RdS.below hrd (hW.mono hn0) (Nat.le_refl _)) hY h0
end Go.Proofs.YtmmbblfmhcegcaaGreat
