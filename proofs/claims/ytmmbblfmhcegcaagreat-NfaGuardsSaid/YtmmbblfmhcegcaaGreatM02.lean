/- Several texts of one proof: A law for regions that draw their order: operations that read, make memory or call, each told of by what it gives; one walk in the order of the text serves every order. -/
import Derived.Deep.Quiet
import Derived.Below
import Derived.Test.YtmmbblfmhcegcaaGreatM01

namespace Go.Proofs.YtmmbblfmhcegcaaGreat
open Go.RowKit Go

section
variable {P : Program} {ops : Array Oper} {C : World → Prop} {E : World → World → Prop} {Pf : Nat → Option ((Value → Prop) × ((Nat → Value) → Value → World → Prop))} {D : Nat → List Nat}

def dstAt (ops : Array Oper) (i : Nat) : Option Tmp := (ops[i]?).bind (·.dst)

def frameR (ops : Array Oper) (a0 : Act) (L : Nat → Bool) (vals : Nat → Value) : Nat → Act
  | 0 => a0
  | k + 1 => if L k then (frameR ops a0 L vals k).put (dstAt ops k) (vals k) else frameR ops a0 L vals k

theorem put_tmps (a : Act) (x : Option Tmp) (v : Value) (d : Nat) : (a.put x v).tmps[d]? = if x = some d then (a.tmps[d]?).map (fun _ => v) else a.tmps[d]? := by
  cases x with
  | none => simp [Act.put]
  | some t =>
    simp only [Act.put, Option.some.injEq]
    by_cases h : t = d
    · subst h
      by_cases hlt : t < a.tmps.size
      · simp [hlt]
      · simp [hlt]
    · rw [if_neg h, Array.getElem?_setIfInBounds_ne h]

theorem frameR_get (a0 : Act) (L : Nat → Bool) (vals : Nat → Value) (d : Nat) : ∀ k, (frameR ops a0 L vals k).tmps[d]? =
    (a0.tmps[d]?).map fun u => ((List.range k).foldl (fun u j => if L j = true ∧ dstAt ops j = some d then vals j else u) u) := by
  intro k
  induction k with
  | zero => simp [frameR]
  | succ k ih =>
    simp only [frameR, List.range_succ, List.foldl_append, List.foldl_cons, List.foldl_nil]
    by_cases h : L k = true
    · rw [if_pos h, put_tmps, ih]
      by_cases hd : dstAt ops k = some d
      · simp [h, hd]
        cases a0.tmps[d]? <;> simp
      · simp [hd]
    · rw [if_neg h, ih]
      simp [h]

/-- What the frame holds at a slot, where each operation that writes it is done in both. -/
theorem frameR_agree (a0 : Act) {L L' : Nat → Bool} {vals vals' : Nat → Value} {k k' d : Nat}
    (h : ∀ j, dstAt ops j = some d → j < k ∧ j < k' ∧ L j = true ∧ L' j = true ∧ vals j = vals' j) (hu : ∀ i j, dstAt ops i = some d → dstAt ops j = some d → i = j) :
    (frameR ops a0 L vals k).tmps[d]? = (frameR ops a0 L' vals' k').tmps[d]? := by
  rw [frameR_get, frameR_get]
  congr 1
  funext u
  have key : ∀ (L : Nat → Bool) (vals : Nat → Value) (k : Nat) (u : Value), (List.range k).foldl (fun u j => if L j = true ∧ dstAt ops j = some d then vals j else u) u =
      if ∃ j, j < k ∧ L j = true ∧ dstAt ops j = some d then (List.range k).foldl (fun u j => if L j = true ∧ dstAt ops j = some d then vals j else u) u else u := by
    intro L vals k
    induction k with
    | zero => intro u; simp
    | succ k ih =>
      intro u
      split
      · rfl
      · rename_i hn
        simp only [List.range_succ, List.foldl_append, List.foldl_cons, List.foldl_nil]
        rw [if_neg (fun hc => hn ⟨k, by omega, hc.1, hc.2⟩), ih, if_neg (fun ⟨j, hj, h1, h2⟩ => hn ⟨j, by omega, h1, h2⟩)]
  have one : ∀ (L : Nat → Bool) (vals : Nat → Value) (k : Nat) (u : Value) (i : Nat), i < k → L i = true → dstAt ops i = some d → (List.range k).foldl (fun u j => if L j = true ∧ dstAt ops j = some d then vals j else u) u = vals i := by
    intro L vals k
    induction k with
    | zero => intro u i hi; omega
    | succ k ih =>
      intro u i hi hL hd
      simp only [List.range_succ, List.foldl_append, List.foldl_cons, List.foldl_nil]
      by_cases hik : i = k
      · subst hik; rw [if_pos ⟨hL, hd⟩]
      · rw [if_neg (fun hc => hik (hu _ _ hd hc.2)), ih u i (by omega) hL hd]
  by_cases hex : ∃ j, dstAt ops j = some d
  · obtain ⟨j, hj⟩ := hex
    obtain ⟨h1, h2, h3, h4, h5⟩ := h j hj
    rw [one L vals k u j h1 h3 hj, one L' vals' k' u j h2 h4 hj, h5]
  · rw [key L, key L', if_neg (fun ⟨j, _, _, hj⟩ => hex ⟨j, hj⟩), if_neg (fun ⟨j, _, _, hj⟩ => hex ⟨j, hj⟩)]

theorem frameR_defers (a0 : Act) (L : Nat → Bool) (vals : Nat → Value) : ∀ k, (frameR ops a0 L vals k).defers = a0.defers := by
  intro k
  induction k with
  | zero => rfl
  | succ k ih =>
    simp only [frameR]
    split
    · cases h : dstAt ops k <;> simp [Act.put, ih]
    · exact ih

def upd {α : Type} (f : Nat → α) (i : Nat) (v : α) : Nat → α := fun j => if j = i then v else f j

theorem frameR_congr (a0 : Act) {L L' : Nat → Bool} {vals vals' : Nat → Value} : ∀ k, (∀ j, j < k → L j = L' j ∧ (L j = true → vals j = vals' j)) → frameR ops a0 L vals k = frameR ops a0 L' vals' k := by
  intro k
  induction k with
  | zero => intro _; rfl
  | succ k ih =>
    intro h
    simp only [frameR]
    rw [ih (fun j hj => h j (by omega))]
    obtain ⟨h1, h2⟩ := h k (by omega)
    rw [← h1]
    split
    · rename_i hk; rw [h2 hk]
    · rfl

/-- One operation more. -/
theorem frameR_add (a0 : Act) {L : Nat → Bool} {vals : Nat → Value} {i : Nat} (v : Value) (hi : L i = false) (hu : ∀ d j, dstAt ops i = some d → dstAt ops j = some d → i = j) :
    ∀ k, i < k → frameR ops a0 (upd L i true) (upd vals i v) k = (frameR ops a0 L vals k).put (dstAt ops i) v := by
  intro k
  induction k with
  | zero => intro h; omega
  | succ k ih =>
    intro hk
    by_cases hik : i = k
    · subst hik
      simp only [frameR]
      rw [frameR_congr a0 (L := upd L i true) (L' := L) (vals := upd vals i v) (vals' := vals) i (fun j hj => ⟨by simp [upd, show j ≠ i by omega], fun _ => by simp [upd, show j ≠ i by omega]⟩)]
      simp [upd, hi]
    · simp only [frameR]
      rw [ih (by omega)]
      have e1 : upd L i true k = L k := by simp [upd, show k ≠ i by omega]
      have e2 : upd vals i v k = vals k := by simp [upd, show k ≠ i by omega]
      rw [e1, e2]
      split
      · rw [Act.put_comm]
        intro d hd hd'
        exact hik (hu d k hd hd')
      · rfl

/-- What a step that gives one value gives: the value, in the world that it got. -/
def relVal (w : World) (v : Value) : Result Next → Prop
  | .ok (.value u) w' => w' = w ∧ u = v
  | .ok .skip w' => w' = w ∧ v = undef
  | _ => False
/-- What a step that makes memory, or calls, gives: some value of which R says what is known, in a world that stands to the old one as E says. -/
def relEff (P : Program) (C : World → Prop) (E : World → World → Prop) (R : Value → World → Prop) (w : World) : Result Next → Prop
  | .ok (.value u) w' => C w' ∧ E w w' ∧ R u w'
  | .ok .skip w' => C w' ∧ E w w' ∧ R undef w'
  | .ok (.enter f args) w' => w' = w ∧ Calls P f args w (fun e w'' => ∃ v, e = .returned v ∧ C w'' ∧ E w w'' ∧ R v w'')
  | _ => False

/-- THE LEXICAL WALK. Pf k: what is known of what operation k gives (none: one value). D k: the operations whose facts step k may use. Γ: the facts so far. -/
def wpRel (P : Program) (ops : Array Oper) (C : World → Prop) (E : World → World → Prop) (Pf : Nat → Option ((Value → Prop) × ((Nat → Value) → Value → World → Prop))) (D : Nat → List Nat) (Q : Act → World → Prop) : List Oper → Nat → (Nat → Value) → List (Nat × (World → Prop)) → Act → Prop
  | [], _, _, Γ, a => ∀ w, C w → (∀ p ∈ Γ, p.2 w) → Q a w
  | o :: l, k, vs, Γ, a =>
    if Region.wanted o (yielded ops a.tmps) = true then
      match Pf k with
      | none => ∃ v, (∀ w, C w → (∀ p ∈ Γ, p.1 ∈ D k → p.2 w) → relVal w v ((execOp a.eval o).run P w)) ∧ wpRel P ops C E Pf D Q l (k + 1) (upd vs k v) Γ (a.put o.dst v)
      | some R => (∀ w, C w → (∀ p ∈ Γ, p.1 ∈ D k → p.2 w) → relEff P C E (fun v w => R.1 v ∧ R.2 vs v w) w ((execOp a.eval o).run P w)) ∧ ∀ v, R.1 v → wpRel P ops C E Pf D Q l (k + 1) (upd vs k v) ((k, R.2 vs v) :: Γ) (a.put o.dst v)
    else wpRel P ops C E Pf D Q l (k + 1) (upd vs k undef) Γ (a.put o.dst undef)

/-- What the law asks of a region's shape. -/
def relB (ops : Array Oper) (D : Nat → List Nat) : Bool :=
  Region.noSelect ops &&
  (List.range ops.size).all fun i =>
    match ops[i]? with
    | none => false
    | some o =>
      (o.after.toList.all fun e => !Region.binds .any e || decide (e.on < i)) &&
      ((List.range ops.size).all fun j => (match dstAt ops j with
        | none => true
        | some d => (!((o.looksAt ops).contains d) || o.after.toList.any fun e => Region.binds .any e && e.on == j) && (i == j || !(dstAt ops i == some d)))) &&
      ((D i).all fun m => o.after.toList.any fun e => Region.binds .any e && (e.on == m || (D e.on).contains m))

structure RelB (ops : Array Oper) (D : Nat → List Nat) : Prop where
  sel : Region.noSelect ops = true
  order : ∀ (i : Nat) (o : Oper), ops[i]? = some o → ∀ e ∈ o.after, Region.binds .any e = true → e.on < i
  looks : ∀ (i : Nat) (o : Oper), ops[i]? = some o → ∀ d ∈ o.looksAt ops, ∀ j, dstAt ops j = some d → ∃ e ∈ o.after, Region.binds .any e = true ∧ e.on = j
  uniq : ∀ i j d, dstAt ops i = some d → dstAt ops j = some d → i = j
  deps : ∀ (i : Nat) (o : Oper), ops[i]? = some o → ∀ m ∈ D i, ∃ e ∈ o.after, Region.binds .any e = true ∧ (e.on = m ∨ m ∈ D e.on)

theorem dstAt_lt {i : Nat} {d : Tmp} (h : dstAt ops i = some d) : i < ops.size := by
  unfold dstAt at h
  cases ho : ops[i]? with
  | none => rw [ho] at h; cases h
  | some o => exact (Array.getElem?_eq_some_iff.1 ho).1

theorem relB_spec (h : relB ops D = true) : RelB ops D := by
  simp only [relB, Bool.and_eq_true, List.all_eq_true, List.mem_range] at h
  obtain ⟨hs, h⟩ := h
  have at_ : ∀ (i : Nat) (o : Oper), ops[i]? = some o → i < ops.size := fun i o ho => (Array.getElem?_eq_some_iff.1 ho).1
  refine ⟨hs, fun i o ho e he hb => ?_, fun i o ho d hd j hj => ?_, fun i j d hi hj => ?_, fun i o ho m hm => ?_⟩
  · have := h i (at_ i o ho)
    simp only [ho, Bool.and_eq_true, List.all_eq_true] at this
    have h1 := this.1.1 e (by simpa using he)
    simpa [hb] using h1
  · have := h i (at_ i o ho)
    simp only [ho, Bool.and_eq_true, List.all_eq_true] at this
    have h1 := this.1.2 j (by simpa using dstAt_lt hj)
    simp only [hj, Bool.and_eq_true, Bool.or_eq_true, Bool.not_eq_true', List.any_eq_true, List.contains_eq_mem, decide_eq_false_iff_not] at h1
    rcases h1.1 with h2 | ⟨e, he, h2⟩
    · exact absurd hd h2
    · exact ⟨e, by simpa using he, by simpa using h2⟩
  · have hlt := dstAt_lt hi
    have := h i hlt
    have ho : ops[i]? = some ops[i] := Array.getElem?_eq_getElem hlt
    simp only [ho, Bool.and_eq_true, List.all_eq_true] at this
    have h1 := this.1.2 j (by simpa using dstAt_lt hj)
    simp only [hj, Bool.and_eq_true, Bool.or_eq_true, beq_iff_eq] at h1
    rcases h1.2 with h2 | h2
    · exact h2
    · rw [hi] at h2; simp at h2
  · have := h i (at_ i o ho)
    simp only [ho, Bool.and_eq_true, List.all_eq_true] at this
    have h1 := this.2 m hm
    simp only [List.any_eq_true, Bool.and_eq_true, Bool.or_eq_true, beq_iff_eq, List.contains_eq_mem, decide_eq_true_eq] at h1
    obtain ⟨e, he, h2, h3⟩ := h1
    exact ⟨e, by simpa using he, h2, h3⟩

/-- The frame of the lexical walk ahead of operation k. -/
abbrev lexA (ops : Array Oper) (a0 : Act) (vals : Nat → Value) (k : Nat) : Act := frameR ops a0 (fun _ => true) vals k
def isWanted (ops : Array Oper) (a0 : Act) (vals : Nat → Value) (k : Nat) : Bool :=
  match ops[k]? with
  | some o => Region.wanted o (yielded ops (lexA ops a0 vals k).tmps)
  | none => false
/-- The values of the walk ahead of node k. -/
def pathV (vals : Nat → Value) (k : Nat) : Nat → Value := fun j => if j < k then vals j else undef
theorem pathV_zero (vals : Nat → Value) : pathV vals 0 = fun _ => undef := by funext j; simp [pathV]
theorem pathV_succ (vals : Nat → Value) (k : Nat) : upd (pathV vals k) k (vals k) = pathV vals (k + 1) := by
  funext j
  simp only [upd, pathV]
  by_cases h : j = k
  · subst h; simp
  · by_cases h2 : j < k
    · simp [h, h2, show j < k + 1 by omega]
    · simp [h, h2, show ¬ j < k + 1 by omega]
theorem pathV_upd (vals : Nat → Value) (k : Nat) (v : Value) {n : Nat} (hn : n ≤ k) : pathV (upd vals k v) n = pathV vals n := by
  funext j
  simp only [upd, pathV]
  by_cases h2 : j < n
  · simp [h2, show j ≠ k by omega]
  · simp [h2]
def factR (ops : Array Oper) (a0 : Act) (Pf : Nat → Option ((Value → Prop) × ((Nat → Value) → Value → World → Prop))) (vals : Nat → Value) (m : Nat) (w : World) : Prop :=
  isWanted ops a0 vals m = true → ∀ R, Pf m = some R → R.2 (pathV vals m) (vals m) w
def rightR (P : Program) (ops : Array Oper) (a0 : Act) (C : World → Prop) (Pf : Nat → Option ((Value → Prop) × ((Nat → Value) → Value → World → Prop))) (D : Nat → List Nat) (vals : Nat → Value) (j : Nat) : Prop :=
  ∀ o, ops[j]? = some o → (isWanted ops a0 vals j = true → Pf j = none → ∀ w, C w → (∀ m ∈ D j, factR ops a0 Pf vals m w) → relVal w (vals j) ((execOp (lexA ops a0 vals j).eval o).run P w)) ∧
    (isWanted ops a0 vals j = false → vals j = undef) ∧ (isWanted ops a0 vals j = true → ∀ R, Pf j = some R → R.1 (vals j))
def gammaR (ops : Array Oper) (a0 : Act) (Pf : Nat → Option ((Value → Prop) × ((Nat → Value) → Value → World → Prop))) (vals : Nat → Value) : Nat → List (Nat × (World → Prop))
  | 0 => []
  | k + 1 => if isWanted ops a0 vals k = true then (match Pf k with | some R => (k, R.2 (pathV vals k) (vals k)) :: gammaR ops a0 Pf vals k | none => gammaR ops a0 Pf vals k) else gammaR ops a0 Pf vals k

theorem gammaR_spec {a0 : Act} {vals : Nat → Value} {p : Nat × (World → Prop)} : ∀ {k}, p ∈ gammaR ops a0 Pf vals k → isWanted ops a0 vals p.1 = true ∧ ∃ R, Pf p.1 = some R ∧ p.2 = R.2 (pathV vals p.1) (vals p.1) := by
  intro k
  induction k with
  | zero => intro h; simp [gammaR] at h
  | succ k ih =>
    intro h
    simp only [gammaR] at h
    split at h
    · rename_i hw
      split at h
      · rename_i R hR
        rcases List.mem_cons.1 h with rfl | h
        · exact ⟨hw, R, hR, rfl⟩
        · exact ih h
      · exact ih h
    · exact ih h

theorem relVal_inj {w : World} {u v : Value} {r : Result Next} (h : relVal w u r) (h' : relVal w v r) : u = v := by
  cases r with
  | ok n w' =>
    cases n <;> simp only [relVal] at h h'
    · exact h.2.symm.trans h'.2
    · exact h.2.trans h'.2.symm
  | halt x w' => exact h.elim

theorem yielded_congr {t t' : Array Value} {g : Nat} (h : ∀ d, dstAt ops g = some d → t[d]? = t'[d]?) : yielded ops t g = yielded ops t' g := by
  unfold yielded
  have : ((ops[g]?).bind (·.dst)).bind (t[·]?) = ((ops[g]?).bind (·.dst)).bind (t'[·]?) := by
    cases hd : dstAt ops g with
    | none => unfold dstAt at hd; rw [hd]; rfl
    | some d => have := h d hd; unfold dstAt at hd; rw [hd]; exact this
  rw [this]

/-- An operation, in two frames that agree on what it looks at. -/
theorem op_congr {a a' : Act} {i : Nat} {o : Oper} (hB : RelB ops D) (ho : ops[i]? = some o) (h : ∀ d ∈ o.looksAt ops, a.tmps[d]? = a'.tmps[d]?) :
    execOp a.eval o = execOp a'.eval o ∧ Region.wanted o (yielded ops a.tmps) = Region.wanted o (yielded ops a'.tmps) := by
  constructor
  · refine execOp_congr o (fun cs b => Region.noSelect_spec hB.sel i o cs b ho) fun x hx => ?_
    cases x with
    | tmp t =>
      have ht : t ∈ o.looksAt ops := by
        unfold Oper.looksAt
        refine List.mem_append_left _ ?_
        rw [List.mem_filterMap]
        exact ⟨.tmp t, by simpa using hx, rfl⟩
      have := h t ht
      simp only [Act.eval, Array.getD_eq_getD_getElem?, this]
    | const v => rfl
    | global g => rfl
    | func f => rfl
  · unfold Region.wanted
    cases hg : o.guard with
    | none => rfl
    | some g =>
      obtain ⟨j, b⟩ := g
      have : yielded ops a.tmps j = yielded ops a'.tmps j := yielded_congr fun d hd => h d (by
        unfold Oper.looksAt
        refine List.mem_append_right _ ?_
        rw [hg]
        unfold dstAt at hd
        simp [hd])
      simp only [this]

section
variable {a0 : Act} {vals vals' : Nat → Value} {k : Nat}
/-- Two valuations that agree on what operation k waits for agree on its frame, as far as it looks. -/
theorem lexA_congr (hB : RelB ops D) {o : Oper} (ho : ops[k]? = some o) (h : ∀ e ∈ o.after, Region.binds .any e = true → vals e.on = vals' e.on) :
    execOp (lexA ops a0 vals k).eval o = execOp (lexA ops a0 vals' k).eval o ∧ isWanted ops a0 vals k = isWanted ops a0 vals' k := by
  have := op_congr (a := lexA ops a0 vals k) (a' := lexA ops a0 vals' k) hB ho fun d hd => frameR_agree a0 (fun j hj => by
    obtain ⟨e, he, hb, rfl⟩ := hB.looks k o ho d hd j hj
    have hlt := hB.order k o ho e he hb
    exact ⟨hlt, hlt, rfl, rfl, h e he hb⟩) (fun i j hi hj => hB.uniq i j d hi hj)
  refine ⟨this.1, ?_⟩
  simp only [isWanted, ho]
  exact this.2

/-- A set of operations that has, with each, all that it waits for. -/
def ClosedR (ops : Array Oper) (L : Nat → Bool) : Prop := ∀ j, L j = true → ∀ o, ops[j]? = some o → ∀ e ∈ o.after, Region.binds .any e = true → L e.on = true

theorem closed_deps {L : Nat → Bool} (hB : RelB ops D) (hL : ClosedR ops L) : ∀ j o, ops[j]? = some o → (∀ e ∈ o.after, Region.binds .any e = true → L e.on = true) → ∀ m ∈ D j, L m = true := by
  intro j
  induction j using Nat.strongRecOn with
  | _ j ih =>
    intro o ho hall m hm
    obtain ⟨e, he, hb, h⟩ := hB.deps j o ho m hm
    have hLe := hall e he hb
    rcases h with rfl | h
    · exact hLe
    · cases hoe : ops[e.on]? with
      | none =>
        exfalso
        have := hB.order j o ho e he hb
        have hj : j < ops.size := (Array.getElem?_eq_some_iff.1 ho).1
        rw [Array.getElem?_eq_none_iff] at hoe
        omega
      | some oe => exact ih e.on (hB.order j o ho e he hb) oe hoe (hL e.on hLe oe hoe) m h

/-- What is known of what k gives speaks of what k waits for alone. -/
def LocalR (Pf : Nat → Option ((Value → Prop) × ((Nat → Value) → Value → World → Prop))) (D : Nat → List Nat) : Prop := ∀ k R, Pf k = some R → ∀ vs vs' v w, (∀ m ∈ D k, vs m = vs' m) → R.2 vs v w → R.2 vs' v w

theorem deps_lt (hB : RelB ops D) : ∀ j o, ops[j]? = some o → ∀ m ∈ D j, m < j := by
  intro j
  induction j using Nat.strongRecOn with
  | _ j ih =>
    intro o ho m hm
    obtain ⟨e, he, hb, h⟩ := hB.deps j o ho m hm
    have hlt := hB.order j o ho e he hb
    rcases h with rfl | h
    · exact hlt
    · have hj : j < ops.size := (Array.getElem?_eq_some_iff.1 ho).1
      have := ih e.on hlt _ (Array.getElem?_eq_getElem (by omega)) m h
      omega

theorem fact_congr (hB : RelB ops D) (hloc : LocalR Pf D) {L : Nat → Bool} (hL : ClosedR ops L) (hv : ∀ j, L j = true → vals' j = vals j) {m : Nat} (hm : L m = true) {w : World} :
    factR ops a0 Pf vals m w ↔ factR ops a0 Pf vals' m w := by
  unfold factR
  cases ho : ops[m]? with
  | none => simp [isWanted, ho]
  | some o =>
    have hw : isWanted ops a0 vals m = isWanted ops a0 vals' m := (lexA_congr hB ho fun e he hb => (hv _ (hL m hm o ho e he hb)).symm).2
    rw [hw, hv m hm]
    have hp : ∀ n ∈ D m, pathV vals m n = pathV vals' m n := fun n hn => by
      simp only [pathV]
      rw [hv n (closed_deps hB hL m o ho (hL m hm o ho) n hn)]
    exact ⟨fun h hw R hR => hloc m R hR _ _ _ _ hp (h hw R hR), fun h hw R hR => hloc m R hR _ _ _ _ (fun n hn => (hp n hn).symm) (h hw R hR)⟩

theorem right_congr (hB : RelB ops D) (hloc : LocalR Pf D) {L : Nat → Bool} (hL : ClosedR ops L) (hv : ∀ j, L j = true → vals' j = vals j) {j : Nat} (hj : L j = true) (h : rightR P ops a0 C Pf D vals j) : rightR P ops a0 C Pf D vals' j := by
  intro o ho
  obtain ⟨h1, h2, h3⟩ := h o ho
  obtain ⟨e1, e2⟩ := lexA_congr (a0 := a0) (vals := vals) (vals' := vals') hB ho fun e he hb => (hv _ (hL j hj o ho e he hb)).symm
  rw [← e2, ← e1, hv j hj]
  refine ⟨fun hw hp w hC hf => h1 hw hp w hC fun m hm => ?_, h2, h3⟩
  exact (fact_congr hB hloc hL hv (closed_deps hB hL j o ho (hL j hj o ho) m hm)).2 (hf m hm)

/-- DOWN THE WALK: there is a way to node k that agrees with what has been done. -/
theorem descend {l tl : List Oper} {Q : Act → World → Prop} {L : Nat → Bool} (hops : ops = (l ++ tl).toArray) (hB : RelB ops D) (hloc : LocalR Pf D) (hin : ∀ k R, Pf k = some R → ∃ v, R.1 v) (hL : ClosedR ops L) (tree : wpRel P ops C E Pf D Q l 0 (fun _ => undef) [] a0)
    (hr : ∀ j, L j = true → rightR P ops a0 C Pf D vals j) {w0 : World} (hC : C w0) (hf : ∀ j, L j = true → factR ops a0 Pf vals j w0) :
    ∀ k, k ≤ l.length → ∃ vals', (∀ j, L j = true → vals' j = vals j) ∧ wpRel P ops C E Pf D Q (l.drop k) k (pathV vals' k) (gammaR ops a0 Pf vals' k) (lexA ops a0 vals' k) := by
  intro k
  induction k with
  | zero => intro _; exact ⟨vals, fun _ _ => rfl, by rw [pathV_zero]; simpa [gammaR, frameR] using tree⟩
  | succ k ih =>
    intro hk
    obtain ⟨vals1, hv, ht⟩ := ih (by omega)
    have hlt : k < l.length := by omega
    rw [List.drop_eq_getElem_cons hlt] at ht
    have ho : ops[k]? = some l[k] := by rw [hops]; simp [List.getElem?_append_left hlt]
    have hd : dstAt ops k = (l[k]).dst := by simp [dstAt, ho]
    -- the frame and the facts of node k + 1, whatever value is given to k
    have hA : ∀ v, lexA ops a0 (upd vals1 k v) (k + 1) = (lexA ops a0 vals1 k).put (l[k]).dst v := fun v => by
      simp only [lexA, frameR, if_true]
      rw [frameR_congr a0 (L' := fun _ => true) (vals' := vals1) k (fun j hj => ⟨rfl, fun _ => by simp [upd, show j ≠ k by omega]⟩), hd]
      simp [upd]
    have hcong : ∀ v m, m ≤ k → isWanted ops a0 (upd vals1 k v) m = isWanted ops a0 vals1 m := fun v m hm => by
      simp only [isWanted, lexA]
      rw [frameR_congr a0 (L' := fun _ => true) (vals' := vals1) m (fun j hj => ⟨rfl, fun _ => by simp [upd, show j ≠ k by omega]⟩)]
    have hG0 : ∀ v n, n ≤ k → gammaR ops a0 Pf (upd vals1 k v) n = gammaR ops a0 Pf vals1 n := fun v n => by
      induction n with
      | zero => intro _; rfl
      | succ n ihn =>
        intro hn
        simp only [gammaR]
        rw [hcong v n (by omega), ihn (by omega), pathV_upd vals1 k v (by omega)]
        simp [upd, show n ≠ k by omega]
    have hwk : isWanted ops a0 vals1 k = Region.wanted l[k] (yielded ops (lexA ops a0 vals1 k).tmps) := by simp only [isWanted, ho]
    have back : ∀ v, (L k = true → v = vals1 k) → (∀ j, L j = true → upd vals1 k v j = vals j) := fun v h j hj => by
      by_cases hjk : j = k
      · subst hjk; simp [upd]; rw [h hj]; exact hv j hj
      · simp [upd, hjk]; exact hv j hj
    have right1 : L k = true → rightR P ops a0 C Pf D vals1 k := fun h => right_congr hB hloc hL hv h (hr k h)
    have fact1 : ∀ j, L j = true → factR ops a0 Pf vals1 j w0 := fun j hj => (fact_congr hB hloc hL hv hj).1 (hf j hj)
    unfold wpRel at ht
    rw [← hwk] at ht
    by_cases hw : isWanted ops a0 vals1 k = true
    · rw [if_pos hw] at ht
      cases hp : Pf k with
      | none =>
        rw [hp] at ht
        obtain ⟨v, hval, ht⟩ := ht
        refine ⟨upd vals1 k v, back v fun hLk => ?_, ?_⟩
        · have h1 := (right1 hLk _ ho).1 hw hp w0 hC (fun m hm => fact1 m (closed_deps hB hL k _ ho (hL k hLk _ ho) m hm))
          have h2 := hval w0 hC (fun p hpΓ hpD => by
            obtain ⟨hpw, R, hR, hpe⟩ := gammaR_spec hpΓ
            rw [hpe]
            exact fact1 p.1 (closed_deps hB hL k _ ho (hL k hLk _ ho) p.1 hpD) hpw R hR)
          exact relVal_inj h2 h1
        · rw [hA]
          have : gammaR ops a0 Pf (upd vals1 k v) (k + 1) = gammaR ops a0 Pf vals1 k := by
            simp only [gammaR]
            rw [hcong v k (Nat.le_refl _), if_pos hw, hp, hG0 v k (Nat.le_refl _)]
          rw [this, ← pathV_succ, pathV_upd vals1 k v (Nat.le_refl _), show upd vals1 k v k = v by simp [upd]]; exact ht
      | some R =>
        rw [hp] at ht
        obtain ⟨u, hu⟩ := hin k R hp
        obtain ⟨v, hvv, hvR⟩ : ∃ v, (L k = true → v = vals1 k) ∧ R.1 v := by
          cases hLk : L k with
          | true => exact ⟨vals1 k, fun _ => rfl, (right1 hLk _ ho).2.2 hw R hp⟩
          | false => exact ⟨u, fun h => (by cases h), hu⟩
        refine ⟨upd vals1 k v, back _ hvv, ?_⟩
        rw [hA]
        have : gammaR ops a0 Pf (upd vals1 k v) (k + 1) = (k, R.2 (pathV vals1 k) v) :: gammaR ops a0 Pf vals1 k := by
          simp only [gammaR]
          rw [hcong _ k (Nat.le_refl _), if_pos hw, hp, hG0 _ k (Nat.le_refl _), pathV_upd vals1 k _ (Nat.le_refl _)]
          simp [upd]
        rw [this, ← pathV_succ, pathV_upd vals1 k _ (Nat.le_refl _), show upd vals1 k v k = v by simp [upd]]; exact ht.2 _ hvR
    · rw [if_neg hw] at ht
      refine ⟨upd vals1 k undef, back undef fun hLk => ((right1 hLk _ ho).2.1 (by simpa using hw)).symm, ?_⟩
      rw [hA]
      have : gammaR ops a0 Pf (upd vals1 k undef) (k + 1) = gammaR ops a0 Pf vals1 k := by
        simp only [gammaR]
        rw [hcong undef k (Nat.le_refl _), if_neg hw, hG0 undef k (Nat.le_refl _)]
      rw [this, ← pathV_succ, pathV_upd vals1 k undef (Nat.le_refl _), show upd vals1 k undef k = undef by simp [upd]]; exact ht

/-- One operation, carried out with what has been done. -/
theorem rel_step {l tl : List Oper} {Q : Act → World → Prop} {L : Nat → Bool} (hops : ops = (l ++ tl).toArray) (hB : RelB ops D) (hloc : LocalR Pf D) (hin : ∀ k R, Pf k = some R → ∃ v, R.1 v) (hL : ClosedR ops L) (tree : wpRel P ops C E Pf D Q l 0 (fun _ => undef) [] a0)
    (hr : ∀ j, L j = true → rightR P ops a0 C Pf D vals j) {w0 : World} (hC : C w0) (hf : ∀ j, L j = true → factR ops a0 Pf vals j w0) {i : Nat} {o : Oper} (ho : ops[i]? = some o) (hi : L i = false)
    (hall : ∀ e ∈ o.after, Region.binds .any e = true → L e.on = true) {n : Nat} (hnL : ∀ j, L j = true → j < n) (a : Act) (ha : a = frameR ops a0 L vals n)
    (Q' : Exit → Act → World → Prop) (K : Act → World → Prop) (hil : i < l.length)
    (hK : ∀ v w', C w' → (w' = w0 ∨ E w0 w') → rightR P ops a0 C Pf D (upd vals i v) i → factR ops a0 Pf (upd vals i v) i w' → K (a.put o.dst v) w') :
    wpOp P ops Q' i K a w0 := by
  obtain ⟨vals1, hv, ht⟩ := descend (vals := vals) hops hB hloc hin hL tree hr hC hf i (by omega)
  rw [List.drop_eq_getElem_cons hil] at ht
  have hol : l[i] = o := by rw [hops] at ho; simpa [List.getElem?_append_left hil, hil] using ho
  rw [hol] at ht
  -- the actual frame and the walk's agree on what o looks at
  obtain ⟨e1, e2⟩ := op_congr (a := a) (a' := lexA ops a0 vals1 i) hB ho fun d hd => by
    rw [ha]
    exact frameR_agree a0 (fun j hj => by
      obtain ⟨e, he, hb, rfl⟩ := hB.looks i o ho d hd j hj
      have hLe := hall e he hb
      exact ⟨hnL _ hLe, hB.order i o ho e he hb, hLe, rfl, (hv _ hLe).symm⟩) (fun i j hi hj => hB.uniq i j d hi hj)
  have hdep : ∀ m ∈ D i, L m = true := closed_deps hB hL i o ho hall
  have hne : ∀ e ∈ o.after, Region.binds .any e = true → e.on ≠ i := fun e he hb h => by have := hB.order i o ho e he hb; omega
  have e3 : ∀ v, execOp (lexA ops a0 (upd vals i v) i).eval o = execOp (lexA ops a0 vals1 i).eval o ∧ isWanted ops a0 (upd vals i v) i = isWanted ops a0 vals1 i := fun v =>
    lexA_congr hB ho fun e he hb => by simp [upd, hne e he hb]; exact (hv _ (hall e he hb)).symm
  have hwi : isWanted ops a0 vals1 i = Region.wanted o (yielded ops (lexA ops a0 vals1 i).tmps) := by simp only [isWanted, ho]
  have hupd : ∀ v j, L j = true → upd vals i v j = vals1 j := fun v j hj => by
    have : j ≠ i := fun h => by rw [h, hi] at hj; cases hj
    simp [upd, this]; exact (hv j hj).symm
  have factU : ∀ v m w, m ∈ D i → (factR ops a0 Pf (upd vals i v) m w ↔ factR ops a0 Pf vals1 m w) := fun v m w hm =>
    (fact_congr (vals := upd vals i v) (vals' := vals1) hB hloc hL (fun j hj => (hupd v j hj).symm) (hdep m hm))
  have gam : ∀ w, (∀ m ∈ D i, factR ops a0 Pf vals1 m w) → ∀ p ∈ gammaR ops a0 Pf vals1 i, p.1 ∈ D i → p.2 w := fun w h p hp hpD => by
    obtain ⟨hpw, R, hR, hpe⟩ := gammaR_spec hp
    rw [hpe]
    exact h p.1 hpD hpw R hR
  have facts0 : ∀ m ∈ D i, factR ops a0 Pf vals1 m w0 := fun m hm => (fact_congr hB hloc hL hv (hdep m hm)).1 (hf m (hdep m hm))
  unfold wpRel at ht
  rw [← e2] at ht
  unfold wpOp
  rw [ho]
  simp only []
  by_cases hw : Region.wanted o (yielded ops a.tmps) = true
  · rw [if_pos hw] at ht ⊢
    have hw1 : isWanted ops a0 vals1 i = true := by rw [hwi, ← e2]; exact hw
    refine Or.inl ?_
    unfold Oper.wp
    rw [e1]
    cases hp : Pf i with
    | none =>
      rw [hp] at ht
      obtain ⟨v, hval, _⟩ := ht
      have hright : rightR P ops a0 C Pf D (upd vals i v) i := fun o' ho' => by
        obtain rfl : o = o' := Option.some.inj (ho.symm.trans ho')
        refine ⟨fun _ _ w hCw hfw => ?_, fun h => (by rw [(e3 v).2, hw1] at h; cases h), fun _ R hR => (by rw [hp] at hR; cases hR)⟩
        rw [(e3 v).1]
        have : upd vals i v i = v := by simp [upd]
        rw [this]
        exact hval w hCw (gam w fun m hm => (factU v m w hm).1 (hfw m hm))
      have hfact : ∀ w, factR ops a0 Pf (upd vals i v) i w := fun w _ R hR => by rw [hp] at hR; cases hR
      have hres := hval w0 hC (gam w0 facts0)
      generalize (execOp (lexA ops a0 vals1 i).eval o).run P w0 = r at hres ⊢
      cases r with
      | ok x w' =>
        cases x <;> simp only [relVal] at hres
        · obtain ⟨rfl, rfl⟩ := hres
          exact hK _ _ hC (.inl rfl) hright (hfact _)
        · obtain ⟨rfl, rfl⟩ := hres
          exact hK _ _ hC (.inl rfl) hright (hfact _)
      | halt x w' => exact hres.elim
    | some R =>
      rw [hp] at ht
      have hright : ∀ v, R.1 v → rightR P ops a0 C Pf D (upd vals i v) i := fun v hv1 o' ho' => by
        refine ⟨fun _ h => (by rw [hp] at h; cases h), fun h => (by rw [(e3 v).2, hw1] at h; cases h), fun _ R' hR' => ?_⟩
        rw [hp] at hR'; cases hR'
        simpa [upd] using hv1
      have hpath : ∀ v, ∀ m ∈ D i, pathV vals1 i m = pathV (upd vals i v) i m := fun v m hm => by
        have hml := hdep m hm
        have hmi : m ≠ i := fun h => by rw [h, hi] at hml; cases hml
        simp [pathV, upd, hmi, hv m hml]
      have hfact : ∀ v w, R.2 (pathV vals1 i) v w → factR ops a0 Pf (upd vals i v) i w := fun v w h _ R' hR' => by
        rw [hp] at hR'; cases hR'
        have := hloc i R hp _ _ _ _ (hpath v) h
        simpa [upd] using this
      have hres := ht.1 w0 hC (gam w0 facts0)
      generalize (execOp (lexA ops a0 vals1 i).eval o).run P w0 = r at hres ⊢
      cases r with
      | ok x w' =>
        cases x <;> simp only [relEff] at hres
        · obtain ⟨h1, h2, h3⟩ := hres
          exact hK _ _ h1 (.inr h2) (hright _ h3.1) (hfact _ _ h3.2)
        · obtain ⟨h1, h2, h3⟩ := hres
          exact hK _ _ h1 (.inr h2) (hright _ h3.1) (hfact _ _ h3.2)
        · obtain ⟨rfl, h⟩ := hres
          refine Calls.mono h fun e w'' ⟨v, he, h1, h2, h3⟩ => ?_
          subst he
          exact hK _ _ h1 (.inr h2) (hright _ h3.1) (hfact _ _ h3.2)
      | halt x w' => exact hres.elim
  · rw [if_neg hw]
    have hw1 : isWanted ops a0 vals1 i = false := by rw [hwi, ← e2]; simpa using hw
    refine hK undef w0 hC (.inl rfl) (fun o' ho' => ⟨fun h => (by rw [(e3 undef).2, hw1] at h; cases h), fun _ => (by simp [upd]), fun h => (by rw [(e3 undef).2, hw1] at h; cases h)⟩) (fun h => (by rw [(e3 undef).2, hw1] at h; cases h))

def left (L : Nat → Bool) (n : Nat) : Nat := ((List.range n).filter fun j => !L j).length
theorem left_zero {L : Nat → Bool} {n : Nat} (h : left L n = 0) : ∀ j, j < n → L j = true := fun j hj => by
  have h0 : (List.range n).filter (fun j => !L j) = [] := List.length_eq_zero_iff.1 h
  rw [List.filter_eq_nil_iff] at h0
  simpa using h0 j (by simpa using hj)
theorem left_upd {L : Nat → Bool} {i n : Nat} (hi : L i = false) (hn : i < n) : left (upd L i true) n + 1 = left L n := by
  unfold left
  induction n with
  | zero => omega
  | succ n ih =>
    simp only [List.range_succ, List.filter_append, List.length_append]
    by_cases h : i = n
    · subst h
      have : (List.range i).filter (fun j => !upd L i true j) = (List.range i).filter (fun j => !L j) := List.filter_congr fun j hj => by
        have : j ≠ i := by have := List.mem_range.1 hj; omega
        simp [upd, this]
      rw [this]
      simp [upd, hi]
    · have := ih (by omega)
      have e : upd L i true n = L n := by simp [upd, show n ≠ i by omega]
      simp only [List.filter_cons, List.filter_nil, e]
      omega

/-- Whatever order is picked from here on. -/
theorem wpAny_of_rel {l : List Oper} {Q : Act → World → Prop} {Q' : Exit → Act → World → Prop} (hQ : ∀ a w, Q a w → Q' .normal a w) (hops : ops = l.toArray) (hB : RelB ops D) (hloc : LocalR Pf D) (hin : ∀ k R, Pf k = some R → ∃ v, R.1 v)
    (hpers : ∀ k R, Pf k = some R → ∀ vs v w w', R.2 vs v w → C w' → E w w' → R.2 vs v w') (tree : wpRel P ops C E Pf D Q l 0 (fun _ => undef) [] a0) :
    ∀ (fuel : Nat) (listed : Array Bool) (vals : Nat → Value) (a : Act) (w : World), listed.size = ops.size → left (fun j => listed.getD j false) ops.size = fuel → ClosedR ops (fun j => listed.getD j false) →
      a = frameR ops a0 (fun j => listed.getD j false) vals ops.size → C w → (∀ j, listed.getD j false = true → rightR P ops a0 C Pf D vals j) → (∀ j, listed.getD j false = true → factR ops a0 Pf vals j w) →
      wpAny P .any ops Q' fuel listed a w := by
  have done : ∀ (listed : Array Bool) (vals : Nat → Value) (a : Act) (w : World), (∀ j, j < ops.size → listed.getD j false = true) → ClosedR ops (fun j => listed.getD j false) →
      a = frameR ops a0 (fun j => listed.getD j false) vals ops.size → C w → (∀ j, listed.getD j false = true → rightR P ops a0 C Pf D vals j) → (∀ j, listed.getD j false = true → factR ops a0 Pf vals j w) → Q' .normal a w := by
    intro listed vals a w hall hL ha hC hr hf
    obtain ⟨vals1, hv, ht⟩ := descend (vals := vals) (tl := []) (by simpa using hops) hB hloc hin hL tree hr hC hf l.length (Nat.le_refl _)
    rw [List.drop_length] at ht
    unfold wpRel at ht
    have hsz : ops.size = l.length := by rw [hops]; simp
    have e : a = lexA ops a0 vals1 l.length := by
      rw [ha, hsz]
      exact frameR_congr a0 l.length fun j hj => ⟨by rw [hall j (by omega)], fun h => (hv j h).symm⟩
    rw [e]
    refine hQ _ _ (ht w hC fun p hp => ?_)
    obtain ⟨hpw, R, hR, hpe⟩ := gammaR_spec hp
    rw [hpe]
    have hpl : p.1 < ops.size := by
      unfold isWanted at hpw
      cases ho : ops[p.1]? with
      | none => rw [ho] at hpw; cases hpw
      | some o => exact (Array.getElem?_eq_some_iff.1 ho).1
    exact (fact_congr hB hloc hL hv (hall p.1 hpl)).1 (hf p.1 (hall p.1 hpl)) hpw R hR
  intro fuel
  induction fuel with
  | zero =>
    intro listed vals a w hsize hfuel hL ha hC hr hf
    have hall := left_zero hfuel
    refine ⟨?_, done listed vals a w hall hL ha hC hr hf⟩
    rw [List.eq_nil_iff_forall_not_mem]
    intro i hi
    obtain ⟨h0, o, ho, _⟩ := mem_ready.1 hi
    have hlt := (Array.getElem?_eq_some_iff.1 ho).1
    have h1 := hall i hlt
    have : i < listed.size := by omega
    simp [this] at h0 h1
    rw [h0] at h1; cases h1
  | succ fuel ih =>
    intro listed vals a w hsize hfuel hL ha hC hr hf
    refine ⟨fun hready => ?_, fun i hi => ?_⟩
    · -- nothing is ready: all is done
      refine done listed vals a w ?_ hL ha hC hr hf
      intro j
      induction j using Nat.strongRecOn with
      | _ j ihj =>
        intro hj
        cases hlj : listed.getD j false with
        | true => rfl
        | false =>
          exfalso
          have : j ∈ Region.ready .any ops listed := mem_ready.2 ⟨by
            have : j < listed.size := by omega
            simp [this] at hlj ⊢; exact hlj, ops[j], Array.getElem?_eq_getElem hj, fun e he hb => by
              have hlt := hB.order j _ (Array.getElem?_eq_getElem hj) e he hb
              exact ihj e.on hlt (by omega)⟩
          rw [hready] at this; cases this
    · obtain ⟨h0, o, ho, hall⟩ := mem_ready.1 hi
      have hlt := (Array.getElem?_eq_some_iff.1 ho).1
      have hil : i < listed.size := by omega
      have hi0 : listed.getD i false = false := by simp [hil] at h0 ⊢; exact h0
      have hset : (fun j => (listed.setIfInBounds i true).getD j false) = upd (fun j => listed.getD j false) i true := by
        funext j
        by_cases hij : j = i
        · subst hij; simp [upd, hil]
        · simp only [upd, hij, if_false]; exact getD_set_ne false (Ne.symm hij)
      refine rel_step (L := fun j => listed.getD j false) (vals := vals) (n := ops.size) (tl := []) (by simpa using hops) hB hloc hin hL tree hr hC hf ho hi0 hall (fun j hj => by
        rcases Nat.lt_or_ge j ops.size with h | h
        · exact h
        · simp [Array.getElem?_eq_none (by omega : listed.size ≤ j)] at hj) a ha Q' _ (by rw [hops] at hlt; simpa using hlt) ?_
      intro v w' hC' hww hright hfact
      have hne : ∀ j, listed.getD j false = true → j ≠ i := fun j hj h => by rw [h, hi0] at hj; cases hj
      have hvv : ∀ j, listed.getD j false = true → upd vals i v j = vals j := fun j hj => by simp [upd, hne j hj]
      refine ih _ (upd vals i v) _ w' (by simpa using hsize) ?_ ?_ ?_ hC' ?_ ?_
      · rw [hset]
        have := left_upd (L := fun j => listed.getD j false) hi0 hlt
        omega
      · rw [hset]
        intro j hj oj hoj e he hb
        by_cases hji : j = i
        · subst hji
          obtain rfl : o = oj := Option.some.inj (ho.symm.trans hoj)
          have := hall e he hb
          by_cases hei : e.on = j
          · simp [upd, hei]
          · simp only [upd, hei, if_false]; exact this
        · have hj' : listed.getD j false = true := by simpa [upd, hji] using hj
          have := hL j hj' oj hoj e he hb
          by_cases hei : e.on = i
          · simp [upd, hei]
          · simp only [upd, hei, if_false]; exact this
      · rw [hset, ha]
        have hd : dstAt ops i = o.dst := by simp [dstAt, ho]
        rw [← hd]
        exact (frameR_add a0 v hi0 (fun d j hd hj => hB.uniq _ _ d hd hj) ops.size hlt).symm
      · rw [show (∀ j, (listed.setIfInBounds i true).getD j false = true → rightR P ops a0 C Pf D (upd vals i v) j) ↔ (∀ j, upd (fun j => listed.getD j false) i true j = true → rightR P ops a0 C Pf D (upd vals i v) j) from by
          rw [← hset]]
        intro j hj
        by_cases hji : j = i
        · subst hji; exact hright
        · have hj' : listed.getD j false = true := by simpa [upd, hji] using hj
          exact right_congr hB hloc hL hvv hj' (hr j hj')
      · rw [show (∀ j, (listed.setIfInBounds i true).getD j false = true → factR ops a0 Pf (upd vals i v) j w') ↔ (∀ j, upd (fun j => listed.getD j false) i true j = true → factR ops a0 Pf (upd vals i v) j w') from by
          rw [← hset]]
        intro j hj
        by_cases hji : j = i
        · subst hji; exact hfact
        · have hj' : listed.getD j false = true := by simpa [upd, hji] using hj
          refine (fact_congr hB hloc hL hvv hj').1 fun hw R hR => ?_
          have := hf j hj' hw R hR
          rcases hww with rfl | hb
          · exact this
          · exact hpers j R hR _ _ _ _ this hC' hb
end

/-- **A REGION THAT DRAWS ITS ORDER, whose operations read, make memory, or call, and leave all that was there as it was: ONE WALK IN THE ORDER OF THE TEXT.** -/
theorem wp_region_rel {id : Nat} {Q : Exit → Act → World → Prop} {a : Act} {w : World} {l : List Oper} (C : World → Prop) (E : World → World → Prop) (Pf : Nat → Option ((Value → Prop) × ((Nat → Value) → Value → World → Prop))) (D : Nat → List Nat)
    (hm : P.follows .mixedOrders = true) (hB : relB l.toArray D = true) (hloc : LocalR Pf D) (hin : ∀ k R, Pf k = some R → ∃ v, R.1 v)
    (hpers : ∀ k R, Pf k = some R → ∀ vs v w w', R.2 vs v w → C w' → E w w' → R.2 vs v w') (hC : C w.drew)
    (h : wpRel P l.toArray C E Pf D (fun a' w' => Q .normal a' w') l 0 (fun _ => undef) [] a) : (Code.region id l.toArray true).wp P Q a w := by
  have hB' := relB_spec hB
  refine wp_region_any hm ?_
  refine wpAny_of_rel (Q := fun a' w' => Q .normal a' w') (fun _ _ h => h) rfl hB' hloc hin hpers h _ _ (fun _ => undef) _ _ (by simp) ?_ ?_ ?_ hC ?_ ?_
  · have : (fun j => (Array.replicate l.toArray.size false).getD j false) = fun _ => false := by
      funext j
      simp [Array.getElem?_replicate]
      split <;> rfl
    rw [this]
    unfold left
    rw [List.filter_eq_self.2 (by simp)]
    simp
  · intro j hj
    simp [Array.getElem?_replicate] at hj
    split at hj <;> simp at hj
  · have : (fun j => (Array.replicate l.toArray.size false).getD j false) = fun _ => false := by
      funext j
      simp [Array.getElem?_replicate]
      split <;> rfl
    rw [this]
    generalize l.toArray.size = n
    induction n with
    | zero => rfl
    | succ n ih => simpa [frameR] using ih
  · intro j hj
    simp [Array.getElem?_replicate] at hj
    split at hj <;> simp at hj
  · intro j hj
    simp [Array.getElem?_replicate] at hj
    split at hj <;> simp at hj
end

section
variable {P : Program} {ops : Array Oper} {C : World → Prop} {E : World → World → Prop} {Pf : Nat → Option ((Value → Prop) × ((Nat → Value) → Value → World → Prop))} {D : Nat → List Nat} {Q : Act → World → Prop}
  {o : Oper} {l : List Oper} {k : Nat} {vs : Nat → Value} {Γ : List (Nat × (World → Prop))} {a : Act}
/-- One step that gives one value (or is passed over), what follows behind a variable. -/
theorem wpRel_one (hp : Pf k = none)
    (h : ∀ K : Value → Act → Prop, (∀ v a', wpRel P ops C E Pf D Q l (k + 1) (upd vs k v) Γ a' → K v a') →
      if Region.wanted o (yielded ops a.tmps) = true then ∃ v, (∀ w, C w → (∀ p ∈ Γ, p.1 ∈ D k → p.2 w) → relVal w v ((execOp a.eval o).run P w)) ∧ K v (a.put o.dst v) else K undef (a.put o.dst undef)) :
    wpRel P ops C E Pf D Q (o :: l) k vs Γ a := by
  unfold wpRel
  rw [hp]
  have := h (fun v a' => wpRel P ops C E Pf D Q l (k + 1) (upd vs k v) Γ a') (fun _ _ h => h)
  split
  · rename_i hw; rw [if_pos hw] at this; exact this
  · rename_i hw; rw [if_neg hw] at this; exact this
/-- One step of which R says what is known. -/
theorem wpRel_eff {R : (Value → Prop) × ((Nat → Value) → Value → World → Prop)} (hp : Pf k = some R)
    (h : ∀ K : Value → Act → Prop, (∀ v a', wpRel P ops C E Pf D Q l (k + 1) (upd vs k v) ((k, R.2 vs v) :: Γ) a' → K v a') →
      if Region.wanted o (yielded ops a.tmps) = true then (∀ w, C w → (∀ p ∈ Γ, p.1 ∈ D k → p.2 w) → relEff P C E (fun v w => R.1 v ∧ R.2 vs v w) w ((execOp a.eval o).run P w)) ∧ ∀ v, R.1 v → K v (a.put o.dst v)
      else ∀ K' : Act → Prop, (∀ a', wpRel P ops C E Pf D Q l (k + 1) (upd vs k undef) Γ a' → K' a') → K' (a.put o.dst undef)) :
    wpRel P ops C E Pf D Q (o :: l) k vs Γ a := by
  unfold wpRel
  rw [hp]
  have := h (fun v a' => wpRel P ops C E Pf D Q l (k + 1) (upd vs k v) ((k, R.2 vs v) :: Γ) a') (fun _ _ h => h)
  split
  · rename_i hw; rw [if_pos hw] at this; exact this
  · rename_i hw; rw [if_neg hw] at this; exact this _ (fun _ h => h)
theorem wpRel_nil (h : ∀ w, C w → (∀ p ∈ Γ, p.2 w) → Q a w) : wpRel P ops C E Pf D Q [] k vs Γ a := h
end

/-! ### 'x, y := f(..)' where x is a struct or an array: the variable's block is made and filled in the region, wherever the order puts it. -/
structure SetTo (G : Nat) (t : TypeId) (vals : Array Value) (w w' : World) : Prop where
  os : w'.os = w.os
  tape : w'.tape = w.tape
  output : w'.output = w.output
  size : w'.heap.size = w.heap.size
  at_ : ∃ g cs, G ≤ g ∧ w.heap[g]? = some (.cells cs t (0, 0)) ∧ cs.size = vals.size ∧ w'.heap[g]? = some (.cells vals t (0, 0)) ∧ ∀ k, k ≠ g → w'.heap[k]? = w.heap[k]?
def E1 (G : Nat) (t : TypeId) (vals : Array Value) (w w' : World) : Prop := (Below w.heap.size w w' ∧ G ≤ w.heap.size) ∨ SetTo G t vals w w'
def NewPtr (G : Nat) (v : Value) : Prop := ∃ g, v = .pointer (some ⟨g, 0, none⟩) ∧ G ≤ g
def NewBlk (G : Nat) (t : TypeId) (n : Nat) (v : Value) (w : World) : Prop := ∃ (g : Nat) (cs : Array Value), v = .pointer (some ⟨g, 0, none⟩) ∧ G ≤ g ∧ w.heap[g]? = some (.cells cs t (0, 0)) ∧ cs.size = n
def SetBlk (G : Nat) (t : TypeId) (vals : Array Value) (v : Value) (w : World) : Prop := ∃ g, v = .pointer (some ⟨g, 0, none⟩) ∧ G ≤ g ∧ w.heap[g]? = some (.cells vals t (0, 0))
def pfDecl (G : Nat) (t : TypeId) (vals : Array Value) (ia is_ : Nat) (cv : Nat → Option Value) (k : Nat) : Option ((Value → Prop) × ((Nat → Value) → Value → World → Prop)) :=
  if k = ia then some (NewPtr G, fun _ => NewBlk G t vals.size)
  else if k = is_ then some (fun v => v = undef, fun vs _ => SetBlk G t vals (vs ia))
  else (cv k).map fun c => (fun v => v = c, fun _ _ _ => True)
def dDecl (ia is_ : Nat) (k : Nat) : List Nat := if k = is_ then [ia] else []

theorem SetTo.below {G : Nat} {t : TypeId} {vals : Array Value} {w w' : World} (h : SetTo G t vals w w') : Below G w w' := by
  obtain ⟨g, cs, hg, _, _, _, hk⟩ := h.at_
  exact ⟨h.os, h.tape, h.output, by rw [h.size]; exact Nat.le_refl _, fun k hlt => hk k (by omega)⟩
theorem E1.below {G : Nat} {t : TypeId} {vals : Array Value} {w w' : World} (h : E1 G t vals w w') : Below G w w' := by
  rcases h with ⟨h, hG⟩ | h
  · exact h.mono hG
  · exact h.below

theorem wp_region_decl {P : Program} {id : Nat} {Q : Exit → Act → World → Prop} {a : Act} {w : World} {l : List Oper} (C : World → Prop) (G : Nat) (t : TypeId) (vals : Array Value) (ia is_ : Nat) (cv : Nat → Option Value)
    (_hne : ia ≠ is_) (hm : P.follows .mixedOrders = true) (hB : relB l.toArray (dDecl ia is_) = true) (hC : C w.drew)
    (h : wpRel P l.toArray C (E1 G t vals) (pfDecl G t vals ia is_ cv) (dDecl ia is_) (fun a' w' => Q .normal a' w') l 0 (fun _ => undef) [] a) : (Code.region id l.toArray true).wp P Q a w := by
  refine wp_region_rel C (E1 G t vals) (pfDecl G t vals ia is_ cv) (dDecl ia is_) hm hB ?_ ?_ ?_ hC h
  · intro k R hR vs vs' v w hd hr
    unfold pfDecl at hR
    unfold dDecl at hd
    by_cases h1 : k = ia
    · rw [if_pos h1] at hR; cases hR; exact hr
    · rw [if_neg h1] at hR
      by_cases h2 : k = is_
      · rw [if_pos h2] at hR hd; cases hR
        obtain ⟨g, e, r⟩ := hr
        exact ⟨g, (hd ia (by simp)).symm.trans e, r⟩
      · rw [if_neg h2] at hR
        cases hc : cv k with
        | none => rw [hc] at hR; cases hR
        | some c => rw [hc] at hR; cases hR; trivial
  · intro k R hR
    unfold pfDecl at hR
    by_cases h1 : k = ia
    · rw [if_pos h1] at hR; cases hR; exact ⟨_, G, rfl, Nat.le_refl _⟩
    · rw [if_neg h1] at hR
      by_cases h2 : k = is_
      · rw [if_pos h2] at hR; cases hR; exact ⟨_, rfl⟩
      · rw [if_neg h2] at hR
        cases hc : cv k with
        | none => rw [hc] at hR; cases hR
        | some c => rw [hc] at hR; cases hR; exact ⟨_, rfl⟩
  · intro k R hR vs v w w' hr _ hE
    have keep : ∀ (g : Nat) (cs : Array Value), w.heap[g]? = some (.cells cs t (0, 0)) → cs.size = vals.size → ∃ cs', w'.heap[g]? = some (.cells cs' t (0, 0)) ∧ cs'.size = vals.size ∧ (cs = vals → cs' = vals) := by
      intro g cs hg hs
      rcases hE with ⟨hE, _⟩ | hE
      · exact ⟨cs, (hE.block g (Array.getElem?_eq_some_iff.1 hg).1).trans hg, hs, fun h => h⟩
      · obtain ⟨g', cs', _, _, _, h4, h5⟩ := hE.at_
        by_cases hgg : g = g'
        · subst hgg; exact ⟨vals, h4, rfl, fun _ => rfl⟩
        · exact ⟨cs, (h5 g hgg).trans hg, hs, fun h => h⟩
    unfold pfDecl at hR
    by_cases h1 : k = ia
    · rw [if_pos h1] at hR; cases hR
      obtain ⟨g, cs, e, hg, hh, hs⟩ := hr
      obtain ⟨cs', h', hs', _⟩ := keep g cs hh hs
      exact ⟨g, cs', e, hg, h', hs'⟩
    · rw [if_neg h1] at hR
      by_cases h2 : k = is_
      · rw [if_pos h2] at hR; cases hR
        obtain ⟨g, e, hg, hh⟩ := hr
        obtain ⟨cs', h', _, hv⟩ := keep g vals hh rfl
        rw [hv rfl] at h'
        exact ⟨g, e, hg, h'⟩
      · rw [if_neg h2] at hR
        cases hc : cv k with
        | none => rw [hc] at hR; cases hR
        | some c => rw [hc] at hR; cases hR; trivial
end Go.Proofs.YtmmbblfmhcegcaaGreat
