/- How patterns lie in memory: the words in which all walks over patterns speak. -/
import Derived.Test.YtidddeobachjgaaLibR
import Derived.Test.YtidddeobachjgaaPlA
import Derived.WalkKit
import Derived.WalkLawsBesides
import Derived.WalkSpells
import Derived.Outline
import Derived.Below
namespace Go.Proofs.Ytidddeobachjgaa
open Go.RowKit

/-- A contract whose call leaves all that was there as it was, said for the blocks below G (cells and marks), in the form that a walk goes on with. -/
theorem stayf {P : Program} {f : FuncId} {args : Array Value} {W : World} {E : Ending} {G : Nat} (h : Calls P f args W fun e w' => e = E ∧ Below W.heap.size W w') (hG : G ≤ W.heap.size) :
    Calls P f args W fun e w' => e = E ∧ (∀ b o, b < G → w'.cell? ⟨b, o, none⟩ = W.cell? ⟨b, o, none⟩) ∧ (∀ b o, b < G → w'.frozen? ⟨b, o, none⟩ = W.frozen? ⟨b, o, none⟩) ∧ G ≤ w'.heap.size ∧ Hid (Below G W w') :=
  h.mono fun _ _ ⟨he, hb⟩ => ⟨he, fun _ _ hlt => (hb.mono hG).cell (p := ⟨_, _, none⟩) hlt, fun _ _ hlt => (hb.mono hG).frozen (p := ⟨_, _, none⟩) hlt, Nat.le_trans hG hb.size, hb.mono hG⟩

/-- From offset o of block b on lie the cells cs. -/
def At (w : World) (b o : Nat) (cs : List Value) : Prop := ∀ j u, cs[j]? = some u → w.cell? ⟨b, o + j, none⟩ = some u
theorem At.below {B : Nat} {w w' : World} {b o : Nat} {cs : List Value} (h : At w b o cs) (hb : Below B w w') (hB : b < B) : At w' b o cs :=
  fun j u hu => (hb.cell (p := ⟨b, o + j, none⟩) hB).trans (h j u hu)
theorem At.get {w : World} {b o : Nat} {cs : List Value} (h : At w b o cs) (j : Nat) {u : Value} (hu : cs[j]? = some u) : w.cell? ⟨b, o + j, none⟩ = some u := h j u hu

theorem At.c1 {w : World} {b o : Nat} {x0 : Value} (h : At w b o [x0]) : w.cell? ⟨b, o, none⟩ = some x0 := h 0 _ rfl
theorem At.c2 {w : World} {b o : Nat} {x0 x1 : Value} (h : At w b o [x0, x1]) : w.cell? ⟨b, o, none⟩ = some x0 ∧ w.cell? ⟨b, o + 1, none⟩ = some x1 := ⟨h 0 _ rfl, h 1 _ rfl⟩
theorem At.c4 {w : World} {b o : Nat} {x0 x1 x2 x3 : Value} (h : At w b o [x0, x1, x2, x3]) : w.cell? ⟨b, o, none⟩ = some x0 ∧ w.cell? ⟨b, o + 1, none⟩ = some x1 ∧ w.cell? ⟨b, o + 2, none⟩ = some x2 ∧ w.cell? ⟨b, o + 3, none⟩ = some x3 := ⟨h 0 _ rfl, h 1 _ rfl, h 2 _ rfl, h 3 _ rfl⟩
theorem At.c6 {w : World} {b o : Nat} {x0 x1 x2 x3 x4 x5 : Value} (h : At w b o [x0, x1, x2, x3, x4, x5]) : w.cell? ⟨b, o, none⟩ = some x0 ∧ w.cell? ⟨b, o + 1, none⟩ = some x1 ∧ w.cell? ⟨b, o + 2, none⟩ = some x2 ∧ w.cell? ⟨b, o + 3, none⟩ = some x3 ∧ w.cell? ⟨b, o + 4, none⟩ = some x4 ∧ w.cell? ⟨b, o + 5, none⟩ = some x5 := ⟨h 0 _ rfl, h 1 _ rfl, h 2 _ rfl, h 3 _ rfl, h 4 _ rfl, h 5 _ rfl⟩
theorem At.c9 {w : World} {b o : Nat} {x0 x1 x2 x3 x4 x5 x6 x7 x8 : Value} (h : At w b o [x0, x1, x2, x3, x4, x5, x6, x7, x8]) : w.cell? ⟨b, o, none⟩ = some x0 ∧ w.cell? ⟨b, o + 1, none⟩ = some x1 ∧ w.cell? ⟨b, o + 2, none⟩ = some x2 ∧ w.cell? ⟨b, o + 3, none⟩ = some x3 ∧ w.cell? ⟨b, o + 4, none⟩ = some x4 ∧ w.cell? ⟨b, o + 5, none⟩ = some x5 ∧ w.cell? ⟨b, o + 6, none⟩ = some x6 ∧ w.cell? ⟨b, o + 7, none⟩ = some x7 ∧ w.cell? ⟨b, o + 8, none⟩ = some x8 := ⟨h 0 _ rfl, h 1 _ rfl, h 2 _ rfl, h 3 _ rfl, h 4 _ rfl, h 5 _ rfl, h 6 _ rfl, h 7 _ rfl, h 8 _ rfl⟩

/-- v is a slice of xs.length elements of sz cells each, below block B; of each element holds R. -/
def RdL {α : Type} (sz : Nat) (cells : World → Nat → α → List Value → Prop) (w : World) (B : Nat) (v : Value) (xs : List α) : Prop :=
  ∃ (A : Option Addr) (cap b off : Nat), v = .slice A xs.length cap ∧ xs.length ≤ cap ∧ cap ≤ 9223372036854775807 ∧ (0 < xs.length → A = some ⟨b, off, none⟩ ∧ b < B) ∧
    ∀ i x, xs[i]? = some x → ∃ cs, cells w B x cs ∧ At w b (off + i * sz) cs

def Tm.cells (t : Tm) : List Value := [.int .u8 t.k, .int .i64 t.n, .int .i64 t.s, .int .i64 t.r]
def Cm.cells (c : Cm) : List Value := [.int .u8 c.op, .int .u8 c.l.k, .int .i64 c.l.n, .int .i64 c.l.s, .int .i64 c.l.r, .int .u8 c.r.k, .int .i64 c.r.n, .int .i64 c.r.s, .int .i64 c.r.r]
abbrev tmV (t : Tm) : Value := .agg #[.int .u8 t.k, .int .i64 t.n, .int .i64 t.s, .int .i64 t.r]
abbrev cmV (c : Cm) : Value := .agg #[.int .u8 c.op, .int .u8 c.l.k, .int .i64 c.l.n, .int .i64 c.l.s, .int .i64 c.l.r, .int .u8 c.r.k, .int .i64 c.r.n, .int .i64 c.r.s, .int .i64 c.r.r]
abbrev spV (s : Sp) (cv : Value) : Value := .agg #[.bool s.neg, .int .i64 s.kind, .int .i64 s.min, .int .i64 s.max, .bool s.strict, cv]
abbrev ptV (sv : Value) (win : Int) : Value := .agg #[sv, .int .i64 win]
def cmC (_ : World) (_ : Nat) (c : Cm) (cs : List Value) : Prop := cs = c.cells ∧ 0 ≤ c.op
abbrev RdC := RdL 9 cmC
def spC (w : World) (B : Nat) (s : Sp) (cs : List Value) : Prop := ∃ cv, cs = [.bool s.neg, .int .i64 s.kind, .int .i64 s.min, .int .i64 s.max, .bool s.strict, cv] ∧ RdC w B cv s.cmps
abbrev RdS := RdL 6 spC
def intC (_ : World) (_ : Nat) (n : Int) (cs : List Value) : Prop := cs = [.int .i64 n]
abbrev RdI := RdL 1 intC

theorem RdL.below' {α : Type} {sz : Nat} {cells : World → Nat → α → List Value → Prop} {w w' : World} {B B' : Nat} {v : Value} {xs : List α} (h : RdL sz cells w B v xs) (hb : Below B w w') (hB : B ≤ B')
    (hc : ∀ x cs, cells w B x cs → cells w' B' x cs) : RdL sz cells w' B' v xs := by
  obtain ⟨A, cap, b, off, h1, h2, h3, h4, h5⟩ := h
  refine ⟨A, cap, b, off, h1, h2, h3, fun h0 => ⟨(h4 h0).1, Nat.lt_of_lt_of_le (h4 h0).2 hB⟩, fun i x hx => ?_⟩
  obtain ⟨cs, hcs, hat⟩ := h5 i x hx
  have h0 : 0 < xs.length := by have := (List.getElem?_eq_some_iff.1 hx).1; omega
  exact ⟨cs, hc _ _ hcs, hat.below hb (h4 h0).2⟩
theorem RdC.below {w w' : World} {B B' : Nat} {v : Value} {xs : List Cm} (h : RdC w B v xs) (hb : Below B w w') (hB : B ≤ B') : RdC w' B' v xs := RdL.below' h hb hB fun _ _ h => h
theorem RdI.below {w w' : World} {B B' : Nat} {v : Value} {xs : List Int} (h : RdI w B v xs) (hb : Below B w w') (hB : B ≤ B') : RdI w' B' v xs := RdL.below' h hb hB fun _ _ h => h
theorem RdS.below {w w' : World} {B B' : Nat} {v : Value} {xs : List Sp} (h : RdS w B v xs) (hb : Below B w w') (hB : B ≤ B') : RdS w' B' v xs :=
  RdL.below' h hb hB fun _ _ ⟨cv, e, hr⟩ => ⟨cv, e, hr.below hb hB⟩
end Go.Proofs.Ytidddeobachjgaa
