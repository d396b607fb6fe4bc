/- A drawn region whose operations read, make rows of their own, or call what makes such rows: a table tells what each gives; one walk in the order of the text. -/
import Derived.Test.YtidddeobachjgaaLibN
namespace Go.Proofs.Ytidddeobachjgaa
open Go.RowKit

/-- What is known of what an operation gives: the value's form; what stands in memory. -/
abbrev Fact := (Value → Prop) × (Value → World → Prop)
structure FactOk (f : Fact) : Prop where
  inh : ∃ v, f.1 v
  stable : ∀ v w w', f.2 v w → Below w.heap.size w w' → f.2 v w'
def pfT (L : List (Nat × Fact)) (k : Nat) : Option ((Value → Prop) × ((Nat → Value) → Value → World → Prop)) := (L.lookup k).map fun f => (f.1, fun _ v w => f.2 v w)
def dT : List (Nat × List Nat) → Nat → List Nat
  | [], _ => []
  | (j, l) :: D, k => if k = j then l else dT D k
def ListV (l : List Int) (v : Value) : Prop := ∃ A cap, v = .slice A l.length cap
def valF (c : Value) : Fact := (fun v => v = c, fun _ _ => True)
def rowF (G : Nat) (l : List Int) : Fact := (ListV l, fun v w => OwI w G v l)
theorem valF_ok (c : Value) : FactOk (valF c) := ⟨⟨c, rfl⟩, fun _ _ _ _ _ => trivial⟩
theorem rowF_ok (G : Nat) (l : List Int) : FactOk (rowF G l) := ⟨⟨_, none, 0, rfl⟩, fun _ _ _ h hb => OwI.below h hb (Nat.le_refl _)⟩
/-- A row of numbers without room behind it. -/
def fullF (G : Nat) (l : List Int) : Fact := (FullV l, fun v w => OwF w G v l)
theorem fullF_ok (G : Nat) (l : List Int) : FactOk (fullF G l) := ⟨fullV_some l, fun _ _ _ h hb => OwF.below h hb (Nat.le_refl _)⟩
/-- A pattern of the call's own. -/
def patF (G : Nat) (p : List Sp) (win : Int) : Fact := (fun v => ∃ sv, v = ptV sv win, fun v w => ∃ sv ps, v = ptV sv win ∧ OwP w G sv ps ∧ ps.map (·.1) = p)
theorem patF_ok (G : Nat) (p : List Sp) (win : Int) : FactOk (patF G p win) := ⟨⟨_, .slice none 0 0, rfl⟩, fun _ _ _ ⟨sv, ps, e, h, hp⟩ hb => ⟨sv, ps, e, h.below hb (Nat.le_refl _), hp⟩⟩

theorem lookup_mem {α : Type} {L : List (Nat × α)} {k : Nat} {f : α} (h : L.lookup k = some f) : ∃ j, (j, f) ∈ L := by
  induction L with
  | nil => cases h
  | cons p L ih =>
    obtain ⟨j, g⟩ := p
    simp only [List.lookup] at h
    split at h
    · cases h; exact ⟨j, by simp⟩
    · obtain ⟨i, hi⟩ := ih h; exact ⟨i, by simp [hi]⟩

theorem wp_region_tab {P : Program} {id : Nat} {Q : Exit → Act → World → Prop} {a : Act} {w : World} {ops : List Oper} (G : Nat) (hG : G ≤ w.heap.size) (L : List (Nat × Fact)) (D : List (Nat × List Nat)) (hm : P.follows .mixedOrders = true) (hB : relB ops.toArray (dT D) = true) (hok : ∀ p ∈ L, FactOk p.2)
    (h : wpRel P ops.toArray (fun w' => ∃ n, w' = grown G w n) (fun w w' => Below w.heap.size w w') (pfT L) (dT D) (fun a' w' => Q .normal a' w') ops 0 (fun _ => undef) [] a) :
    (Code.region id ops.toArray true).wp P Q a w := by
  refine wp_region_rel _ _ (pfT L) (dT D) hm hB ?_ ?_ ?_ ⟨w.drew, (grown_of ((Below.refl _ _).drew) hG).symm⟩ h
  · intro k R hR vs vs' v w hd hr
    obtain ⟨f, -, rfl⟩ := Option.map_eq_some_iff.1 hR
    exact hr
  · intro k R hR
    obtain ⟨f, hf, rfl⟩ := Option.map_eq_some_iff.1 hR
    obtain ⟨j, hj⟩ := lookup_mem hf
    exact (hok _ hj).inh
  · intro k R hR vs v w w' hr _ hE
    obtain ⟨f, hf, rfl⟩ := Option.map_eq_some_iff.1 hR
    obtain ⟨j, hj⟩ := lookup_mem hf
    exact (hok _ hj).stable _ _ _ hr hE

section
variable {P : Program} {ops : Array Oper} {C : World → Prop} {E : World → World → Prop} {L : List (Nat × Fact)} {D : Nat → List Nat} {Q : Act → World → Prop}
  {o : Oper} {l : List Oper} {k : Nat} {vs : Nat → Value} {Γ : List (Nat × (World → Prop))} {a : Act}
theorem wpTab_eff (f : Fact) (hp : L.lookup k = some f)
    (h : ∀ K : Value → Act → Prop, (∀ v a', wpRel P ops C E (pfT L) D Q l (k + 1) (upd vs k v) ((k, f.2 v) :: Γ) a' → K v a') →
      if Region.wanted o (yielded ops a.tmps) = true then (∀ w, C w → (∀ p ∈ Γ, p.1 ∈ D k → p.2 w) → relEff P C E (fun v w => f.1 v ∧ f.2 v w) w ((execOp a.eval o).run P w)) ∧ ∀ v, f.1 v → K v (a.put o.dst v)
      else ∀ K' : Act → Prop, (∀ a', wpRel P ops C E (pfT L) D Q l (k + 1) (upd vs k undef) Γ a' → K' a') → K' (a.put o.dst undef)) :
    wpRel P ops C E (pfT L) D Q (o :: l) k vs Γ a :=
  wpRel_eff (R := (f.1, fun _ v w => f.2 v w)) (by unfold pfT; rw [hp]; rfl) h
end

section
variable {G : Nat} {W x : World}
theorem tab_call {P : Program} {f : FuncId} {args : Array Value} {R : Value → World → Prop} (hG : G ≤ W.heap.size) (h : ∀ w, Below G W w → G ≤ w.heap.size → Calls P f args w fun e w' => (∃ v, e = .returned v ∧ R v w') ∧ Below w.heap.size w w') :
    Calls P f args (grown G W x) fun e w'' => ∃ v, e = .returned v ∧ (∃ n, w'' = grown G W n) ∧ Below (grown G W x).heap.size (grown G W x) w'' ∧ R v w'' :=
  (h _ (grown_below G W x) (grown_size G W x hG)).mono fun _ w'' ⟨⟨v, he, hr⟩, hb⟩ =>
    ⟨v, he, ⟨w'', (grown_of ((grown_below G W x).trans (hb.mono (grown_size G W x hG))) (Nat.le_trans (grown_size G W x hG) hb.size)).symm⟩, hb, hr⟩
theorem tab_val_at {P : Program} {f : FuncId} {args : Array Value} {c : Value} (hG : G ≤ W.heap.size) (h : Calls P f args (grown G W x) fun e w' => e = .returned c ∧ Below (grown G W x).heap.size (grown G W x) w') :
    Calls P f args (grown G W x) fun e w'' => ∃ v, e = .returned v ∧ (∃ n, w'' = grown G W n) ∧ Below (grown G W x).heap.size (grown G W x) w'' ∧ v = c :=
  h.mono fun _ w'' ⟨he, hb⟩ =>
    ⟨c, he, ⟨w'', (grown_of ((grown_below G W x).trans (hb.mono (grown_size G W x hG))) (Nat.le_trans (grown_size G W x hG) hb.size)).symm⟩, hb, rfl⟩
/-- A call that gives one value. -/
theorem tab_val {P : Program} {f : FuncId} {args : Array Value} {c : Value} (hG : G ≤ W.heap.size) (h : ∀ w, Below G W w → G ≤ w.heap.size → Calls P f args w fun e w' => e = .returned c ∧ Below w.heap.size w w') :
    Calls P f args (grown G W x) fun e w'' => ∃ v, e = .returned v ∧ (∃ n, w'' = grown G W n) ∧ Below (grown G W x).heap.size (grown G W x) w'' ∧ v = c := by
  refine tab_call (R := fun v _ => v = c) hG fun w hb hz => (h w hb hz).mono fun e w' ⟨he, hb'⟩ => ⟨⟨c, he, rfl⟩, hb'⟩
/-- A call that gives a row of the call's own. -/
theorem tab_row {P : Program} {f : FuncId} {args : Array Value} {l : List Int} (hG : G ≤ W.heap.size) (h : ∀ w, Below G W w → G ≤ w.heap.size → Calls P f args w fun e w' => (∃ v, e = .returned v ∧ OwI w' w.heap.size v l) ∧ Below w.heap.size w w') :
    Calls P f args (grown G W x) fun e w'' => ∃ v, e = .returned v ∧ (∃ n, w'' = grown G W n) ∧ Below (grown G W x).heap.size (grown G W x) w'' ∧ ListV l v ∧ OwI w'' G v l := by
  refine tab_call (R := fun v w' => ListV l v ∧ OwI w' G v l) hG fun w hb hz => (h w hb hz).mono fun e w' ⟨⟨v, he, ho⟩, hb'⟩ => ⟨⟨v, he, ho.form, ho.mono hz⟩, hb'⟩
theorem tab_pat {P : Program} {f : FuncId} {args : Array Value} {p : List Sp} {win : Int} (hG : G ≤ W.heap.size) (h : ∀ w, Below G W w → G ≤ w.heap.size → Calls P f args w fun e w' => (∃ sv ps, e = .returned (ptV sv win) ∧ OwP w' w.heap.size sv ps ∧ ps.map (·.1) = p) ∧ Below w.heap.size w w') :
    Calls P f args (grown G W x) fun e w'' => ∃ v, e = .returned v ∧ (∃ n, w'' = grown G W n) ∧ Below (grown G W x).heap.size (grown G W x) w'' ∧ (∃ sv, v = ptV sv win) ∧ ∃ sv, v = ptV sv win ∧ ∃ ps, OwP w'' G sv ps ∧ ps.map (·.1) = p := by
  refine tab_call (R := fun v w' => (∃ sv, v = ptV sv win) ∧ ∃ sv, v = ptV sv win ∧ ∃ ps, OwP w' G sv ps ∧ ps.map (·.1) = p) hG fun w hb hz => (h w hb hz).mono fun e w' ⟨⟨sv, ps, he, ho, hp⟩, hb'⟩ => ⟨⟨_, he, ⟨sv, rfl⟩, sv, rfl, ps, ho.mono hz, hp⟩, hb'⟩
theorem tab_alloc (hG : G ≤ W.heap.size) (l : List Int) (hl : l.length ≤ maxLen) :
    (∃ n, (grown G W x).alloc (.cells (l.map (Value.int .i64)).toArray 3) = grown G W n) ∧ Below (grown G W x).heap.size (grown G W x) ((grown G W x).alloc (.cells (l.map (Value.int .i64)).toArray 3)) ∧
      ListV l (.slice (some ⟨(grown G W x).heap.size, 0, none⟩) l.length l.length) ∧ OwI ((grown G W x).alloc (.cells (l.map (Value.int .i64)).toArray 3)) G (.slice (some ⟨(grown G W x).heap.size, 0, none⟩) l.length l.length) l := by
  have hz := grown_size G W x hG
  have hb : Below (grown G W x).heap.size (grown G W x) ((grown G W x).alloc (.cells (l.map (Value.int .i64)).toArray 3)) := (Below.refl _ _).alloc (Nat.le_refl _) _
  exact ⟨⟨_, (grown_of ((grown_below G W x).trans (hb.mono hz)) (Nat.le_trans hz hb.size)).symm⟩, hb, ⟨_, _, rfl⟩, OwF.ow (.inr ⟨_, rfl, hz, Blk.new _ _ _⟩) hl⟩
theorem tab_full (hG : G ≤ W.heap.size) (l : List Int) :
    (∃ n, (grown G W x).alloc (.cells (l.map (Value.int .i64)).toArray 3) = grown G W n) ∧ Below (grown G W x).heap.size (grown G W x) ((grown G W x).alloc (.cells (l.map (Value.int .i64)).toArray 3)) ∧
      FullV l (.slice (some ⟨(grown G W x).heap.size, 0, none⟩) l.length l.length) ∧ OwF ((grown G W x).alloc (.cells (l.map (Value.int .i64)).toArray 3)) G (.slice (some ⟨(grown G W x).heap.size, 0, none⟩) l.length l.length) l := by
  have hz := grown_size G W x hG
  have hb : Below (grown G W x).heap.size (grown G W x) ((grown G W x).alloc (.cells (l.map (Value.int .i64)).toArray 3)) := (Below.refl _ _).alloc (Nat.le_refl _) _
  exact ⟨⟨_, (grown_of ((grown_below G W x).trans (hb.mono hz)) (Nat.le_trans hz hb.size)).symm⟩, hb, .inr ⟨_, rfl⟩, .inr ⟨_, rfl, hz, Blk.new _ _ _⟩⟩
end
end Go.Proofs.Ytidddeobachjgaa
