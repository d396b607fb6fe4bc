/- Several texts of one proof: Small laws that the walks of this claim lean on: a scope out of which a goto jumps ahead. | A loop over an iterator, in the form in which the walks of this claim use it (Derived.RangeFuncWrites' law, at the wide fence), and a function's end behind it. | Patterns as plain data, and what the layers of trees and of checks tell of them: plain Lean, no program in sight. | How patterns lie in memory: the words in which all walks over patterns speak. | Slices of ints that a call makes: what it owns, and how one is appended to. | Plain laws about patterns: sizes, firsts, what is too great. | Plain laws about patterns: positive steps, lengths. -/
import Derived.Test.YtmmbblfmhcegcaaGreatRows
import Derived.ScopeJumps
import Derived.ControlIn
import Derived.WalkKit
import Derived.RangeFuncNested
import Derived.RangeFuncBound
import Derived.RangeFuncCalls
import Derived.RangeFuncLeaves
import Derived.RangeFuncBox
import Derived.Shelf.Abstract
import Derived.OwnWalkIn
import Derived.TacticsInMore
import Derived.LoopNIn
import Derived.LoopIn
import Init
import Derived.WalkLawsBesides
import Derived.WalkSpells
import Derived.Outline
import Derived.Below
import Derived.Maps.AppendAt

namespace Go.Proofs.YtmmbblfmhcegcaaGreat
open Go.RowKit

theorem wp_scope_fwd {P : Program} {Q : Exit → Act → World → Prop} {a : Act} {w : World} {c rest : Code} (l : Nat) (hf : findLabel c l = some rest)
    (first : c.wp P (Exit.jump l (fun a w => rest.wp P (Exit.noGoto Q) a w) Q) a w) : (Code.scope c).wp P Q a w :=
  wp_scope_jumps l _ (fun _ _ => 0) hf first fun a w h => wp_mono h fun e a' w' hq => by
    cases e <;> first | exact hq | exact hq.elim
theorem hide {p : Prop} (h : p) : Hid p := h
theorem ret_noGoto {Q : Exit → Act → World → Prop} {a : Act} {w : World} (h : Q .ret a w) : Exit.noGoto Q .ret a w := h
theorem ret_jump {l : Nat} {J : Act → World → Prop} {Q : Exit → Act → World → Prop} {a : Act} {w : World} (h : Q .ret a w) : Exit.jump l J Q .ret a w := h

/-- From A to B all blocks below n, and all blocks of cells, are as they were. -/
structure Kept (n : Nat) (A B : World) : Prop where
  below : Below n A B
  cells : ∀ (k : Nat) (o : Obj), A.heap[k]? = some o → o.isCells = true → B.heap[k]? = some o
theorem Kept.of_grown {n : Nat} {A B : World} {row : Option Nat} (hn : n ≤ A.heap.size) (hg : A.grownBy B row) (hr : ∀ r, row = some r → n ≤ r ∧ ∃ o : Obj, A.heap[r]? = some o ∧ o.isCells = false) : Kept n A B :=
  ⟨(Below.refl n A).grown hg hn (fun k e => (hr k e).1), fun k o hk ho => by
    have hlt : k < A.heap.size := (Array.getElem?_eq_some_iff.1 hk).1
    rw [hg.block k hlt (fun e => by
      obtain ⟨_, o', ho', hc⟩ := hr k e.symm
      rw [hk] at ho'; cases ho'; rw [ho] at hc; cases hc)]
    exact hk⟩
theorem Kept.cell {n : Nat} {A B : World} (h : Kept n A B) {p : Addr} {v : Value} (hc : A.cell? p = some v) : B.cell? p = some v := by
  have : ∃ o : Obj, A.heap[p.block]? = some o ∧ o.isCells = true := by
    unfold World.cell? at hc
    split at hc
    · rename_i heq; exact ⟨_, heq, rfl⟩
    · cases hc
  obtain ⟨o, ho, hi⟩ := this
  exact (World.cell?_of_block (w := A) (a := p) ((h.cells _ o ho hi).trans ho.symm)).trans hc
theorem bcell {W w1 : World} (hb : Below W.heap.size W w1) : (∀ b o, b < W.heap.size → w1.cell? ⟨b, o, none⟩ = W.cell? ⟨b, o, none⟩) ∧ (∀ b o, b < W.heap.size → w1.frozen? ⟨b, o, none⟩ = W.frozen? ⟨b, o, none⟩) :=
  ⟨fun b o h => hb.cell (p := ⟨b, o, none⟩) h, fun b o h => hb.frozen (p := ⟨b, o, none⟩) h⟩
end Go.Proofs.YtmmbblfmhcegcaaGreat

namespace Go.Proofs.YtmmbblfmhcegcaaGreat
open Go.RowKit Go.Shelf

/-- Block g is just the cells cs of element type t, none frozen. -/
def Blk (w : World) (g : Nat) (t : TypeId) (cs : Array Value) : Prop := w.heap[g]? = some (.cells cs t (0, 0))
section
variable {w w' : World} {g : Nat} {t : TypeId} {cs : Array Value}
theorem Blk.lt (h : Blk w g t cs) : g < w.heap.size := (Array.getElem?_eq_some_iff.1 h).1
theorem Blk.cell (h : Blk w g t cs) (i : Nat) : w.cell? ⟨g, i, none⟩ = cs[i]? := cell_of_row w g i cs t (0, 0) h
theorem Blk.frozen (h : Blk w g t cs) (i : Nat) : w.frozen? ⟨g, i, none⟩ = false := by
  unfold Blk at h
  simp [World.frozen?, h]
theorem Blk.new (w : World) (t : TypeId) (cs : Array Value) : Blk (w.alloc (.cells cs t)) w.heap.size t cs := heap_alloc_new w _
theorem Blk.new_ {w : World} {g : Nat} (hg : g = w.heap.size) (t : TypeId) (cs : Array Value) : Blk (w.alloc (.cells cs t)) g t cs := hg ▸ heap_alloc_new w _
theorem Blk.alloc (h : Blk w g t cs) (o : Obj) : Blk (w.alloc o) g t cs := (Below.heap_alloc w o g h.lt).trans h
theorem Blk.set_ (h : Blk w g t cs) (i : Nat) (u : Value) : Blk (w.setCell ⟨g, i, none⟩ u) g t (cs.setIfInBounds i u) := by
  unfold Blk at h ⊢
  simp [World.setCell, Array.getElem?_modify, h]
theorem Blk.far (h : Blk w g t cs) {p : Addr} (hp : g ≠ p.block) (u : Value) : Blk (w.setCell p u) g t cs := (Below.heap_setCell w p u g hp).trans h
theorem Blk.below {B : Nat} (h : Blk w g t cs) (hb : Below B w w') (hg : g < B) : Blk w' g t cs := (hb.block g hg).trans h
theorem Blk.kept {B : Nat} (h : Blk w g t cs) (hb : Kept B w w') : Blk w' g t cs := hb.cells _ _ h rfl
theorem Blk.putObj (h : Blk w g t cs) {l : Nat} {o o' : Obj} (hl : w.heap[l]? = some o) (ho : o.isCells = false) : Blk (w.putObj l o') g t cs :=
  (World.putObj_heap_other (by rintro rfl; rw [show w.heap[g]? = _ from h] at hl; cases hl; cases ho)).trans h
theorem Blk.c4 {x0 x1 x2 x3 : Value} (h : Blk w g t #[x0, x1, x2, x3]) : w.cell? ⟨g, 0, none⟩ = some x0 ∧ w.cell? ⟨g, 1, none⟩ = some x1 ∧ w.cell? ⟨g, 2, none⟩ = some x2 ∧ w.cell? ⟨g, 3, none⟩ = some x3 := ⟨h.cell 0, h.cell 1, h.cell 2, h.cell 3⟩
theorem Blk.one {v : Value} (h : Blk w g t #[v]) : w.cell? ⟨g, 0, none⟩ = some v := h.cell 0
end

/-- A contract whose call leaves all that was there as it was, said for the blocks below G, in the form that a walk goes on with. -/
theorem stay {P : Program} {f : FuncId} {args : Array Value} {W : World} {E : Ending} {G : Nat} (h : Calls P f args W fun e w' => e = E ∧ Below W.heap.size W w') (hG : G ≤ W.heap.size) :
    Calls P f args W fun e w' => e = E ∧ (∀ b o, b < G → w'.cell? ⟨b, o, none⟩ = W.cell? ⟨b, o, none⟩) ∧ G ≤ w'.heap.size ∧ Hid (Below G W w') :=
  h.mono fun _ _ ⟨he, hb⟩ => ⟨he, fun _ _ hlt => (hb.mono hG).cell (p := ⟨_, _, none⟩) hlt, Nat.le_trans hG hb.size, hb.mono hG⟩

theorem hid_refl (G : Nat) (W : World) : Hid (Below G W W) := Below.refl _ _
theorem hid_drew (G : Nat) (W : World) : Hid (Below G W W.drew) := (Below.refl _ _).drew
theorem hid_trans {G : Nat} {A B C : World} (h : Hid (Below G A B)) (k : Hid (Below G B C)) : Hid (Below G A C) := Below.trans h k

theorem ownFrom_kept {β : Type} {B : Nat} {I : β → World → Prop} (h : ∀ s W W', I s W → Kept B W W' → I s W') : OwnFrom B (fun s W => I s W ∧ B ≤ W.heap.size) :=
  fun s W W' _ hs hg hr => ⟨h s W W' hs.1 (Kept.of_grown hs.2 hg hr), Nat.le_trans hs.2 hg.size⟩

theorem rf_law {P : Program} {α : Type} {g : Operand} {ps : Array Tmp} {assign body : Code} {Q : Exit → Act → World → Prop} {a : Act} {w : World}
    {gf : Nat} {lb : Array Value} (hg : a.eval g = .func (.func gf) #[] lb) (eg : ∀ args w, (callFunc gf args).run P w = .ok (.enter gf args) w)
    {encs : α → Array Value} {Kp : World → World → Prop} {S Sp : List α → Prop} {N : Nat} (hseq : SeqStopsK Fence.wide 2 P gf lb encs Kp S Sp N w)
    (hKt : ∀ {A B C : World}, Kp A B → Kp B C → Kp A C) (hKb : ∀ (W : World) (l : Nat) (o o' : Obj), w.heap.size ≤ l → W.heap[l]? = some o → o.isCells = false → o.isWalk = false → Kp W (W.putObj l o')) (hps : ∀ x, (encs x).size = ps.size)
    (I : List α → World → Prop) (Ix : Code → List α → World → Prop) (hI : ∀ pre W W', I pre W → Kept w.heap.size W W' → I pre W') (hIx : ∀ c pre W W', Ix c pre W → Kept w.heap.size W W' → Ix c pre W') (h0 : I [] w) (a₁ : α → Act)
    (hassign : ∀ (l : Nat) (x : α) (W : World) (K : Act → World → Prop), K (a₁ x) W →
      assign.wpIn (Fence.wide.inRound l) 1 P (Exit.then K (fun _ _ _ => False)) { tmps := (ps.zip (encs x)).foldl (fun t (p, v) => t.setIfInBounds p v) a.tmps, defers := [] } W)
    (hbody : ∀ (l : Nat) (pre : List α) (x : α) (W : World), w.heap.size ≤ W.heap.size → I pre W → pre.length < N → body.wpIn (Fence.wide.inRound l) 1 P (ownPostG w.heap.size Kp I Ix (pre ++ [x]) W) (a₁ x) W)
    (hdone : ∀ (D : Nat) (xs : List α) (W : World), w.heap.size ≤ D → S xs → I xs W → W.heap[D]? = some (.deferred (some [])) → Q .normal { a with defers := { target := .collected D, args := #[] } :: a.defers } W)
    (hstop : ∀ (D : Nat) (c : Code) (pre : List α) (W : World), w.heap.size ≤ D → Sp pre → Ix c pre W → W.heap[D]? = some (.deferred (some [])) → c.wpIn Fence.wide 3 P Q { a with defers := { target := .collected D, args := #[] } :: a.defers } W) :
    (Code.rangeFunc g ps assign body).wpIn Fence.wide 3 P Q a w := by
  refine wpIn_rangeFunc_ownG rfl (by omega) hg trivial eg hseq (fun h k => hKt h k) hKb (Below.refl _ _) hps (fun s W => I s W ∧ w.heap.size ≤ W.heap.size) (fun c s W => Ix c s W ∧ w.heap.size ≤ W.heap.size)
    (ownFrom_kept hI) (fun c => ownFrom_kept (hIx c)) ⟨h0, Nat.le_refl _⟩ a₁ hassign (fun l pre x W hi hl => wpIn_mono (hbody l pre x W hi.2 hi.1 hl) ?_) (fun D xs W hD hS hi hK => hdone D xs W hD hS hi.1 hK) (fun D c pre W hD hS hi hK => hstop D c pre W hD hS hi.1 hK)
  intro e a' W' h
  cases e with
  | normal => exact ⟨h.1, h.2.1, h.2.2, Nat.le_trans hi.2 h.1.size⟩
  | ret => exact ⟨h.1, h.2, Nat.le_trans hi.2 h.1.size⟩
  | exit id => exact ⟨h.1, h.2, Nat.le_trans hi.2 h.1.size⟩
  | goto t => exact ⟨h.1, h.2, Nat.le_trans hi.2 h.1.size⟩
  | panic c => exact h
  | outgrown => exact h

theorem rf_ret {P : Program} {fn : Func} {R : Ending → World → Prop} {a : Act} {W : World} {D : Nat} {v : Value} (hd : a.defers = [{ target := .collected D, args := #[] }]) (hK : W.heap[D]? = some (.deferred (some [])))
    (hr : (results fn a.tmps).run P (W.putObj D (.deferred none)) = .ok v (W.putObj D (.deferred none))) (hR : R (.returned v) (W.putObj D (.deferred none))) : bodyPostM Fence.wide 3 P fn R .ret a W := by
  show LeavesInM Fence.wide 3 P fn a.tmps R a.defers .returning W
  rw [hd]
  exact ⟨by simp, .inl ⟨_, _, rfl, run_takeDeferred hK, ⟨_, hr, hR⟩⟩⟩
theorem rf_end {P : Program} {fn : Func} {R : Ending → World → Prop} {a : Act} {W : World} {D : Nat} {v : Value} (hd : a.defers = [{ target := .collected D, args := #[] }]) (hK : W.heap[D]? = some (.deferred (some [])))
    (hr : (results fn a.tmps).run P (W.putObj D (.deferred none)) = .ok v (W.putObj D (.deferred none))) (hR : R (.returned v) (W.putObj D (.deferred none))) : bodyPostM Fence.wide 3 P fn R .normal a W := rf_ret hd hK hr hR
theorem Below.putD {n : Nat} {a W : World} (h : Below n a W) (hn : n ≤ W.heap.size) {D : Nat} (hD : n ≤ D) (o : Obj) : Below n a (W.putObj D o) :=
  h.trans ((Below.refl n W).grown (grownBy_putObj' W D o) hn (fun k e => by cases e; exact hD))
theorem keepsFrom_alloc (B : Nat) (W : World) (o : Obj) : KeepsFrom B W (W.alloc o) := (KeepsOthers.alloc W o).from B
theorem keepsFrom_set (B : Nat) (W : World) (p : Addr) (u : Value) : KeepsFrom B W (W.setCell p u) := (KeepsOthers.setCell W p u).from B
end Go.Proofs.YtmmbblfmhcegcaaGreat

namespace Go.Proofs.YtmmbblfmhcegcaaGreat

/-- A term: its kind, N, S, R. -/
structure Tm where
  k : Int
  n : Int
  s : Int
  r : Int
/-- A comparison. -/
structure Cm where
  op : Int
  l : Tm
  r : Tm
/-- A step. -/
structure Sp where
  neg : Bool
  kind : Int
  min : Int
  max : Int
  strict : Bool
  cmps : List Cm

theorem Tm.ext' {a b : Tm} (h : a.k = b.k ∧ a.n = b.n ∧ a.s = b.s ∧ a.r = b.r) : a = b := by
  cases a; cases b; simp only at h; obtain ⟨rfl, rfl, rfl, rfl⟩ := h; rfl
instance : DecidableEq Tm := fun a b =>
  if h : a.k = b.k ∧ a.n = b.n ∧ a.s = b.s ∧ a.r = b.r then .isTrue (Tm.ext' h) else .isFalse (fun e => h (e ▸ ⟨rfl, rfl, rfl, rfl⟩))
theorem Cm.ext' {a b : Cm} (h : a.op = b.op ∧ a.l = b.l ∧ a.r = b.r) : a = b := by
  cases a; cases b; simp only at h; obtain ⟨rfl, rfl, rfl⟩ := h; rfl
instance : DecidableEq Cm := fun a b =>
  if h : a.op = b.op ∧ a.l = b.l ∧ a.r = b.r then .isTrue (Cm.ext' h) else .isFalse (fun e => h (e ▸ ⟨rfl, rfl, rfl⟩))

/-- Same numbers, whatever the comparisons are. -/
def Sp.plain (a b : Sp) : Bool := a.neg == b.neg && decide (a.kind = b.kind) && decide (a.min = b.min) && decide (a.max = b.max) && a.strict == b.strict
def Sp.eqB (a b : Sp) : Bool := a.plain b && decide (a.cmps = b.cmps)
theorem Sp.eqB_iff {a b : Sp} : a.eqB b = true ↔ a = b := by
  cases a; cases b; simp [Sp.eqB, Sp.plain, and_assoc]
instance : DecidableEq Sp := fun a b => if h : a.eqB b = true then .isTrue (Sp.eqB_iff.1 h) else .isFalse (fun e => h (Sp.eqB_iff.2 e))

/-! ### which may be written -/
def numB (n : Int) : Bool := decide (0 ≤ n ∧ n ≤ 1099511627776)
def Tm.two (t : Tm) : Bool := decide (t.k = 5 ∨ t.k = 6)
def Tm.ok (t : Tm) : Bool :=
  decide (-1099511627776 ≤ t.n ∧ t.n ≤ 1099511627776 ∧ t.k < 7 ∧ 0 ≤ t.s ∧ t.s < 26 ∧ 0 ≤ t.r ∧ t.r < 26 ∧ (t.k = 0 → t.s = 0) ∧ (¬(t.k = 5 ∨ t.k = 6) → t.r = 0))
def Cm.ok (c : Cm) : Bool := decide (c.op ≠ 0 ∧ c.op < 7) && c.l.ok && c.r.ok
def Sp.ok (s : Sp) : Bool := numB s.kind && numB s.min && numB s.max && s.cmps.all Cm.ok
def rightB (p : List Sp) (win : Int) : Bool := decide (0 < p.length) && decide (p.length ≤ 26) && numB win && p.all Sp.ok

/-! ### names -/
def Tm.names (t : Tm) : List Int := if t.k = 0 then [] else if t.two = true then [t.s, t.r] else [t.s]
/-- A rising row with one more. -/
def ins (n : Int) : List Int → List Int
  | [] => [n]
  | x :: l => if x = n then x :: l else if n < x then n :: x :: l else x :: ins n l
def Cm.names (c : Cm) : List Int := c.l.names ++ c.r.names
def allNames (cs : List Cm) : List Int := cs.flatMap Cm.names
def asked (cs : List Cm) : List Int := (allNames cs).foldl (fun l n => ins n l) []

/-! ### positive steps, lengths, sizes -/
def posFrom (i : Nat) : List Sp → List Int
  | [] => []
  | s :: l => if s.neg then posFrom (i + 1) l else (i : Int) :: posFrom (i + 1) l
def positive (p : List Sp) : List Int := posFrom 0 p
def within (n : Int) : Int := max 0 (min n 1099511627776)
def leastL (p : List Sp) : Int := (p.map fun s => if s.neg then 0 else within s.min).sum
def mostL (p : List Sp) : Int := (p.map fun s => if s.neg then 0 else within s.max).sum
def sizeF (p : List Sp) : Int := (p.map fun s => 1 + 3 * (s.cmps.length : Int)).sum
def greatB (p : List Sp) : Bool := decide (40 < p.length) || (p.take 41).any fun s => decide (20 < s.cmps.length)
def sameB (p : List Sp) (wp : Int) (q : List Sp) (wq : Int) : Bool := decide (wp = wq) && decide (p = q)

/-! ### which rule is not kept first, and of which step -/
def firstFrom (f : Nat → Sp → Bool) (i : Nat) : List Sp → Int
  | [] => -1
  | s :: l => if f i s then firstFrom f (i + 1) l else i
def whole (b : Bool) : Int := if b then -1 else 0
def stepAt (p : List Sp) (i : Nat) : Sp := p.getD i ⟨true, 0, 0, 0, false, []⟩
def rule1 (p : List Sp) (win : Int) : Bool := decide (p.length ≤ 6 ∧ win ≤ 1073741824)
def rule2 (p : List Sp) : Bool := !(stepAt p 0).neg && !(stepAt p 0).strict
def rule3 (_ : List Sp) (_ : Nat) (s : Sp) : Bool := decide (s.kind < 6)
def rule4 (p : List Sp) (i : Nat) (s : Sp) : Bool :=
  ((!s.neg && (decide (i = 0) || !(stepAt p (i - 1)).neg)) || !s.strict) && (!s.neg || decide (s.min = 1 ∧ s.max = 1))
def rule5 (_ : List Sp) (_ : Nat) (s : Sp) : Bool := s.neg || decide (0 < s.min ∧ s.min ≤ s.max ∧ s.max ≤ 3)
def longF (p : List Sp) : Int := (p.map fun s => if s.neg then 0 else s.max).sum
def rule6 (p : List Sp) : Bool := decide (longF p ≤ 4)
def askOk (p : List Sp) (i : Nat) (n : Int) : Bool := decide (n = i) || (decide (n < i) && !(stepAt p n.toNat).neg && decide ((stepAt p n.toNat).max = 1))
def rule7 (p : List Sp) (i : Nat) (s : Sp) : Bool := decide (s.cmps.length ≤ 4) && (asked s.cmps).all (askOk p i)
/-- Of which step rule r (1 to 7) is not kept first; -1: it is kept. -/
def broken (p : List Sp) (win : Int) (r : Nat) : Int :=
  if r = 1 then whole (rule1 p win) else if r = 2 then whole (rule2 p) else if r = 3 then firstFrom (rule3 p) 0 p
  else if r = 4 then firstFrom (rule4 p) 0 p else if r = 5 then firstFrom (rule5 p) 0 p else if r = 6 then whole (rule6 p) else firstFrom (rule7 p) 0 p
/-- The first of the rules from r on, n of them, that is not kept. -/
def checkFrom (p : List Sp) (win : Int) (r : Nat) : Nat → Int × Int × Int
  | 0 => (0, 0, 0)
  | n + 1 => if broken p win r < 0 then checkFrom p win (r + 1) n else (r, broken p win r, 110)
def checkF (p : List Sp) (win : Int) : Int × Int × Int := if rightB p win then checkFrom p win 1 7 else (0, 0, 2)
def mayB (p : List Sp) (win : Int) : Bool := decide ((checkF p win).2.2 = 0)
/-- The last positive one of the first n steps; -1: there is none. -/
def lastPos (p : List Sp) : Nat → Int
  | 0 => -1
  | n + 1 => if (stepAt p n).neg then lastPos p n else n
def tailF (p : List Sp) : Int := p.length - 1 - lastPos p p.length
def headF (p : List Sp) (i : Int) : Int := if 0 ≤ i ∧ i < p.length then lastPos p i.toNat else -1
end Go.Proofs.YtmmbblfmhcegcaaGreat

namespace Go.Proofs.YtmmbblfmhcegcaaGreat
open Go.RowKit

/-- A contract whose call leaves all that was there as it was, said for the blocks below G (cells and marks), in the form that a walk goes on with. -/
theorem stayf {P : Program} {f : FuncId} {args : Array Value} {W : World} {E : Ending} {G : Nat} (h : Calls P f args W fun e w' => e = E ∧ Below W.heap.size W w') (hG : G ≤ W.heap.size) :
    Calls P f args W fun e w' => e = E ∧ (∀ b o, b < G → w'.cell? ⟨b, o, none⟩ = W.cell? ⟨b, o, none⟩) ∧ (∀ b o, b < G → w'.frozen? ⟨b, o, none⟩ = W.frozen? ⟨b, o, none⟩) ∧ G ≤ w'.heap.size ∧ Hid (Below G W w') :=
  h.mono fun _ _ ⟨he, hb⟩ => ⟨he, fun _ _ hlt => (hb.mono hG).cell (p := ⟨_, _, none⟩) hlt, fun _ _ hlt => (hb.mono hG).frozen (p := ⟨_, _, none⟩) hlt, Nat.le_trans hG hb.size, hb.mono hG⟩

/-- From offset o of block b on lie the cells cs. -/
def At (w : World) (b o : Nat) (cs : List Value) : Prop := ∀ j u, cs[j]? = some u → w.cell? ⟨b, o + j, none⟩ = some u
theorem At.below {B : Nat} {w w' : World} {b o : Nat} {cs : List Value} (h : At w b o cs) (hb : Below B w w') (hB : b < B) : At w' b o cs :=
  fun j u hu => (hb.cell (p := ⟨b, o + j, none⟩) hB).trans (h j u hu)
theorem At.get {w : World} {b o : Nat} {cs : List Value} (h : At w b o cs) (j : Nat) {u : Value} (hu : cs[j]? = some u) : w.cell? ⟨b, o + j, none⟩ = some u := h j u hu

theorem At.c1 {w : World} {b o : Nat} {x0 : Value} (h : At w b o [x0]) : w.cell? ⟨b, o, none⟩ = some x0 := h 0 _ rfl
theorem At.c2 {w : World} {b o : Nat} {x0 x1 : Value} (h : At w b o [x0, x1]) : w.cell? ⟨b, o, none⟩ = some x0 ∧ w.cell? ⟨b, o + 1, none⟩ = some x1 := ⟨h 0 _ rfl, h 1 _ rfl⟩
theorem At.c4 {w : World} {b o : Nat} {x0 x1 x2 x3 : Value} (h : At w b o [x0, x1, x2, x3]) : w.cell? ⟨b, o, none⟩ = some x0 ∧ w.cell? ⟨b, o + 1, none⟩ = some x1 ∧ w.cell? ⟨b, o + 2, none⟩ = some x2 ∧ w.cell? ⟨b, o + 3, none⟩ = some x3 := ⟨h 0 _ rfl, h 1 _ rfl, h 2 _ rfl, h 3 _ rfl⟩
theorem At.c6 {w : World} {b o : Nat} {x0 x1 x2 x3 x4 x5 : Value} (h : At w b o [x0, x1, x2, x3, x4, x5]) : w.cell? ⟨b, o, none⟩ = some x0 ∧ w.cell? ⟨b, o + 1, none⟩ = some x1 ∧ w.cell? ⟨b, o + 2, none⟩ = some x2 ∧ w.cell? ⟨b, o + 3, none⟩ = some x3 ∧ w.cell? ⟨b, o + 4, none⟩ = some x4 ∧ w.cell? ⟨b, o + 5, none⟩ = some x5 := ⟨h 0 _ rfl, h 1 _ rfl, h 2 _ rfl, h 3 _ rfl, h 4 _ rfl, h 5 _ rfl⟩
theorem At.c9 {w : World} {b o : Nat} {x0 x1 x2 x3 x4 x5 x6 x7 x8 : Value} (h : At w b o [x0, x1, x2, x3, x4, x5, x6, x7, x8]) : w.cell? ⟨b, o, none⟩ = some x0 ∧ w.cell? ⟨b, o + 1, none⟩ = some x1 ∧ w.cell? ⟨b, o + 2, none⟩ = some x2 ∧ w.cell? ⟨b, o + 3, none⟩ = some x3 ∧ w.cell? ⟨b, o + 4, none⟩ = some x4 ∧ w.cell? ⟨b, o + 5, none⟩ = some x5 ∧ w.cell? ⟨b, o + 6, none⟩ = some x6 ∧ w.cell? ⟨b, o + 7, none⟩ = some x7 ∧ w.cell? ⟨b, o + 8, none⟩ = some x8 := ⟨h 0 _ rfl, h 1 _ rfl, h 2 _ rfl, h 3 _ rfl, h 4 _ rfl, h 5 _ rfl, h 6 _ rfl, h 7 _ rfl, h 8 _ rfl⟩

/-- v is a slice of xs.length elements of sz cells each, below block B; of each element holds R. -/
def RdL {α : Type} (sz : Nat) (cells : World → Nat → α → List Value → Prop) (w : World) (B : Nat) (v : Value) (xs : List α) : Prop :=
  ∃ (A : Option Addr) (cap b off : Nat), v = .slice A xs.length cap ∧ xs.length ≤ cap ∧ cap ≤ 9223372036854775807 ∧ (0 < xs.length → A = some ⟨b, off, none⟩ ∧ b < B) ∧
    ∀ i x, xs[i]? = some x → ∃ cs, cells w B x cs ∧ At w b (off + i * sz) cs

def Tm.cells (t : Tm) : List Value := [.int .u8 t.k, .int .i64 t.n, .int .i64 t.s, .int .i64 t.r]
def Cm.cells (c : Cm) : List Value := [.int .u8 c.op, .int .u8 c.l.k, .int .i64 c.l.n, .int .i64 c.l.s, .int .i64 c.l.r, .int .u8 c.r.k, .int .i64 c.r.n, .int .i64 c.r.s, .int .i64 c.r.r]
abbrev tmV (t : Tm) : Value := .agg #[.int .u8 t.k, .int .i64 t.n, .int .i64 t.s, .int .i64 t.r]
abbrev cmV (c : Cm) : Value := .agg #[.int .u8 c.op, .int .u8 c.l.k, .int .i64 c.l.n, .int .i64 c.l.s, .int .i64 c.l.r, .int .u8 c.r.k, .int .i64 c.r.n, .int .i64 c.r.s, .int .i64 c.r.r]
abbrev spV (s : Sp) (cv : Value) : Value := .agg #[.bool s.neg, .int .i64 s.kind, .int .i64 s.min, .int .i64 s.max, .bool s.strict, cv]
abbrev ptV (sv : Value) (win : Int) : Value := .agg #[sv, .int .i64 win]
def cmC (_ : World) (_ : Nat) (c : Cm) (cs : List Value) : Prop := cs = c.cells ∧ 0 ≤ c.op
abbrev RdC := RdL 9 cmC
def spC (w : World) (B : Nat) (s : Sp) (cs : List Value) : Prop := ∃ cv, cs = [.bool s.neg, .int .i64 s.kind, .int .i64 s.min, .int .i64 s.max, .bool s.strict, cv] ∧ RdC w B cv s.cmps
abbrev RdS := RdL 6 spC
def intC (_ : World) (_ : Nat) (n : Int) (cs : List Value) : Prop := cs = [.int .i64 n]
abbrev RdI := RdL 1 intC

theorem RdL.below' {α : Type} {sz : Nat} {cells : World → Nat → α → List Value → Prop} {w w' : World} {B B' : Nat} {v : Value} {xs : List α} (h : RdL sz cells w B v xs) (hb : Below B w w') (hB : B ≤ B')
    (hc : ∀ x cs, cells w B x cs → cells w' B' x cs) : RdL sz cells w' B' v xs := by
  obtain ⟨A, cap, b, off, h1, h2, h3, h4, h5⟩ := h
  refine ⟨A, cap, b, off, h1, h2, h3, fun h0 => ⟨(h4 h0).1, Nat.lt_of_lt_of_le (h4 h0).2 hB⟩, fun i x hx => ?_⟩
  obtain ⟨cs, hcs, hat⟩ := h5 i x hx
  have h0 : 0 < xs.length := by have := (List.getElem?_eq_some_iff.1 hx).1; omega
  exact ⟨cs, hc _ _ hcs, hat.below hb (h4 h0).2⟩
theorem RdC.below {w w' : World} {B B' : Nat} {v : Value} {xs : List Cm} (h : RdC w B v xs) (hb : Below B w w') (hB : B ≤ B') : RdC w' B' v xs := RdL.below' h hb hB fun _ _ h => h
theorem RdI.below {w w' : World} {B B' : Nat} {v : Value} {xs : List Int} (h : RdI w B v xs) (hb : Below B w w') (hB : B ≤ B') : RdI w' B' v xs := RdL.below' h hb hB fun _ _ h => h
theorem RdS.below {w w' : World} {B B' : Nat} {v : Value} {xs : List Sp} (h : RdS w B v xs) (hb : Below B w w') (hB : B ≤ B') : RdS w' B' v xs :=
  RdL.below' h hb hB fun _ _ ⟨cv, e, hr⟩ => ⟨cv, e, hr.below hb hB⟩
end Go.Proofs.YtmmbblfmhcegcaaGreat

namespace Go.Proofs.YtmmbblfmhcegcaaGreat
open Go.RowKit

theorem int_info : (Tryz.prog.info? 3).map (fun i => (i.zero, i.size, i.bytes)) = some (some (.int .i64 0), 1, 8) := by kernel_rfl

/-- v is a slice of the call's own, of the numbers l. -/
def OwI (w : World) (base : Nat) (v : Value) (l : List Int) : Prop := w.ownsRow base 3 1 v l.length (l.map (Value.int .i64))

section
variable {w w' : World} {base : Nat} {v : Value} {l : List Int}
theorem OwI.nil (w : World) (base : Nat) : OwI w base (.slice none 0 0) [] := World.ownsRow_nil w base _ _
theorem OwI.alloc (h : OwI w base v l) (o : Obj) : OwI (w.alloc o) base v l := World.ownsRow.alloc h o
theorem OwI.lt (h : OwI w base v l) : ∀ k, v.ownBlock = some k → base ≤ k ∧ k < w.heap.size := World.ownsRow.lt h
theorem OwI.mono {b' : Nat} (h : OwI w base v l) (hb : b' ≤ base) : OwI w b' v l := by
  refine ⟨h.1, ?_⟩
  rcases h.2 with h2 | ⟨g, cap, cur, hv, hg, r⟩
  · exact .inl h2
  · exact .inr ⟨g, cap, cur, hv, by omega, r⟩
theorem OwI.below {B : Nat} (h : OwI w base v l) (hb : Below B w w') (hB : w.heap.size ≤ B) : OwI w' base v l := by
  refine ⟨h.1, ?_⟩
  rcases h.2 with h2 | ⟨g, cap, cur, hv, hg, hh, r⟩
  · exact .inl h2
  · have := (Array.getElem?_eq_some_iff.1 hh).1
    exact .inr ⟨g, cap, cur, hv, hg, (hb.block g (by omega)).trans hh, r⟩
theorem OwI.kept {row : Option Nat} (h : OwI w base v l) (hg : w.grownBy w' row) (hne : v.ownBlock = none ∨ v.ownBlock ≠ row) : OwI w' base v l := World.ownsRow.kept h hg hne
theorem OwI.set {p : Addr} (h : OwI w base v l) (hp : v.ownBlock ≠ some p.block) (u : Value) : OwI (w.setCell p u) base v l := by
  refine ⟨h.1, ?_⟩
  rcases h.2 with h2 | ⟨g, cap, cur, hv, hg, hh, r⟩
  · exact .inl h2
  · refine .inr ⟨g, cap, cur, hv, hg, (Below.heap_setCell _ _ _ _ ?_).trans hh, r⟩
    rintro rfl
    exact hp (by rw [hv]; rfl)
theorem OwI.drew (h : OwI w base v l) : OwI w.drew base v l := h
theorem OwI.drewN (h : OwI w base v l) (n : Nat) : OwI (w.drewN n) base v l := h
theorem OwI.form (h : OwI w base v l) : ∃ A cap, v = .slice A l.length cap := by
  rcases h.2 with ⟨h2, h3⟩ | ⟨g, cap, cur, hv, -⟩
  · exact ⟨none, 0, by rw [h2, h3]⟩
  · exact ⟨_, _, hv⟩
theorem OwI.form1 (h : OwI w base v l) (hl : l ≠ []) : ∃ g cap, v = .slice (some ⟨g, 0, none⟩) l.length cap ∧ base ≤ g ∧ g < w.heap.size := by
  rcases h.2 with ⟨h2, h3⟩ | ⟨g, cap, cur, hv, hg, hh, -⟩
  · exact absurd (List.eq_nil_of_length_eq_zero h3) hl
  · exact ⟨g, cap, hv, hg, (Array.getElem?_eq_some_iff.1 hh).1⟩
theorem OwI.rd (h : OwI w base v l) : RdI w w.heap.size v l := by
  rcases h.2 with ⟨h2, h3⟩ | ⟨g, cap, cur, hv, hg, hh, hn, hm, -⟩
  · obtain rfl := List.eq_nil_of_length_eq_zero h3
    exact ⟨none, 0, 0, 0, by rw [h2]; rfl, Nat.le_refl _, by omega, fun h => absurd h (by simp), fun i x hx => by simp at hx⟩
  · refine ⟨_, cap, g, 0, hv, hn, by unfold maxLen at hm; exact hm, fun _ => ⟨rfl, (Array.getElem?_eq_some_iff.1 hh).1⟩, fun i x hx => ⟨_, rfl, fun j u hu => ?_⟩⟩
    have hj : j = 0 := by
      have := (List.getElem?_eq_some_iff.1 hu).1
      simpa using this
    subst hj
    simp only [List.getElem?_cons_zero, Option.some.injEq] at hu
    subst hu
    have hc := World.ownsRow.cells h (g := g) (by rw [hv]; rfl) i (.int .i64 x) (by simp [hx])
    rw [Addr.add_lit] at hc
    simpa using hc
end

section
variable {ops : Array Oper} {rest : List Oper} {o : Oper} {a : Act} {Q : Exit → Act → World → Prop} {w : World} {base g n c : Nat} {v : Value} {l : List Int} {x : Int}
theorem cell_one_new' {w : World} {g : Nat} {u0 : Value} (h : w.cell? ⟨g, 0, none⟩ = some u0) : ∀ j u, [u0][j]? = some u → w.cell? ((⟨g, 0, none⟩ : Addr).add j) = some u := by
  intro j u hj
  match j, hj with
  | 0, hj =>
    simp at hj
    subst hj
    simpa [Addr.add] using h
/-- 'append(s, x)' of one number. -/
theorem app1 (s y : Operand) (hgd : o.guard = none) (ho : o.op = .call { callee := .builtin .append, args := #[s, y], argTypes := #[28, 28] })
    (hs : a.eval s = v) (hy : a.eval y = .slice (some ⟨g, 0, none⟩) 1 1) (hown : OwI w base v l) (hc : w.cell? ⟨g, 0, none⟩ = some (.int .i64 x)) (hl : l.length < 1000000) (hb : base ≤ w.heap.size)
    (h : ∀ v' w', OwI w' base v' (l ++ [x]) → w.grownBy w' v.ownBlock → wpList Tryz.prog ops Q rest (a.put o.dst v') w') : wpList Tryz.prog ops Q (o :: rest) a w := by
  obtain ⟨i0, hi, hz0, hz1, hz2⟩ := info_parts int_info
  refine wpList_append_own w hgd s y 28 ho base 3 i0 (.int .i64 0) 1 8 Tryz.underlying28 hi hz0 hz1 hz2 rfl (by decide) v l.length _ hs hown ⟨g, 0, none⟩ 1 1 [.int .i64 x] hy rfl
    (cell_one_new' hc) (by simp [Value.oneCell']) (by unfold maxLen; omega) (by omega) hb ?_
  intro v' w' h1 h2 _
  exact h v' w' (by simpa [OwI] using h1) h2
end
end Go.Proofs.YtmmbblfmhcegcaaGreat

namespace Go.Proofs.YtmmbblfmhcegcaaGreat

theorem size_snoc (p : List Sp) (k : Nat) (s : Sp) (h : p[k]? = some s) : sizeF (p.take (k + 1)) = sizeF (p.take k) + (1 + 3 * (s.cmps.length : Int)) := by
  simp [sizeF, List.take_add_one, h]
theorem size_le (p : List Sp) (h : ∀ s ∈ p, s.cmps.length ≤ 21) : 0 ≤ sizeF p ∧ sizeF p ≤ 64 * (p.length : Int) := by
  induction p with
  | nil => simp [sizeF]
  | cons s p ih =>
    have h1 := ih (fun x hx => h x (by simp [hx]))
    have h2 := h s (by simp)
    simp only [sizeF, List.map_cons, List.sum_cons, List.length_cons] at *
    omega
theorem size_take (p : List Sp) (h : ∀ s ∈ p, s.cmps.length ≤ 21) (k : Nat) : 0 ≤ sizeF (p.take k) ∧ sizeF (p.take k) ≤ 64 * (k : Int) := by
  have h1 := size_le (p.take k) (fun s hs => h s (List.mem_of_mem_take hs))
  have h2 : (p.take k).length ≤ k := List.length_take_le _ _
  omega

/-- The place of the first that is so; -1: none. -/
def idxB {α : Type} (f : α → Bool) (l : List α) : Int := if l.findIdx f < l.length then (l.findIdx f : Int) else -1
theorem idx_at {α : Type} {f : α → Bool} {l : List α} {k : Nat} {x : α} (hx : l[k]? = some x) (hf : f x = true) (hno : (l.take k).any f = false) : idxB f l = k := by
  obtain ⟨hk, rfl⟩ := List.getElem?_eq_some_iff.1 hx
  have : l.findIdx f = k := by
    rw [List.findIdx_eq hk]
    refine ⟨hf, fun j hj => ?_⟩
    rw [List.any_eq_false] at hno
    have := hno (l[j]'(by omega)) (by rw [List.mem_take_iff_getElem]; exact ⟨j, by omega, rfl⟩)
    simpa using this
  rw [idxB, this, if_pos hk]
theorem idx_none {α : Type} {f : α → Bool} {l : List α} (hno : l.any f = false) : idxB f l = -1 := by
  rw [idxB, if_neg]
  intro h
  have := List.findIdx_lt_length.1 h
  obtain ⟨x, hx, hf⟩ := this
  rw [List.any_eq_false] at hno
  exact hno x hx hf
theorem idx_any {α : Type} (f : α → Bool) (l : List α) : decide (0 ≤ idxB f l) = l.any f := by
  cases h : l.any f with
  | false => rw [idx_none h]; rfl
  | true =>
    rw [List.any_eq_true] at h
    rw [idxB, if_pos (List.findIdx_lt_length.2 h)]
    simp
theorem any_snoc {α : Type} {f : α → Bool} {l : List α} {k : Nat} {x : α} (hx : l[k]? = some x) : (l.take (k + 1)).any f = ((l.take k).any f || f x) := by
  simp [List.take_add_one, hx, List.any_append]
theorem all_snoc {α : Type} {f : α → Bool} {l : List α} {k : Nat} {x : α} (hx : l[k]? = some x) : (l.take (k + 1)).all f = ((l.take k).all f && f x) := by
  simp [List.take_add_one, hx, List.all_append]
theorem all_take_false {α : Type} {f : α → Bool} {l : List α} {k : Nat} {x : α} (hx : l[k]? = some x) (h : f x = false) : l.all f = false := by
  rw [List.all_eq_false]
  exact ⟨x, List.mem_of_getElem? hx, by simp [h]⟩
theorem mem_at {α : Type} {l : List α} {k : Nat} {x : α} (hx : l[k]? = some x) : x ∈ l := List.mem_of_getElem? hx
theorem any_not {α : Type} (f : α → Bool) (l : List α) : (l.any fun x => !f x) = !l.all f := by
  induction l with
  | nil => rfl
  | cons x l ih => simp only [List.any_cons, List.all_cons, ih, Bool.not_and]

def bigB (s : Sp) : Bool := decide (20 < s.cmps.length)
theorem great_eq (p : List Sp) : greatB p = (decide (40 < p.length) || (p.take 41).any bigB) := rfl
theorem great_yes {p : List Sp} {k : Nat} {s : Sp} (hk : p[k]? = some s) (h41 : k < 41) (h : 20 < s.cmps.length) : greatB p = true := by
  rw [great_eq]
  have : (p.take 41).any bigB = true := by
    rw [List.any_eq_true]
    exact ⟨s, List.mem_of_getElem? (by rw [List.getElem?_take, if_pos h41]; exact hk), by simpa [bigB] using h⟩
  simp [this]
theorem great_end {p : List Sp} {k : Nat} (h : (p.take k).any bigB = false) (hk : (k : Int) = p.length ∧ k ≤ 41 ∨ k = 41) : greatB p = decide (40 < (p.length : Int)) := by
  rw [great_eq]
  have h1 : (p.take 41).any bigB = false := by
    rcases hk with ⟨hk, h41⟩ | rfl
    · have : k = p.length := by omega
      subst this
      rw [List.take_of_length_le (by omega)]
      rwa [List.take_of_length_le (Nat.le_refl _)] at h
    · exact h
  rw [h1, Bool.or_false]
  exact decide_eq_decide.2 (by omega)
theorem great_no {p : List Sp} (h : greatB p = false) : p.length ≤ 40 ∧ ∀ s ∈ p, s.cmps.length ≤ 20 := by
  rw [great_eq, Bool.or_eq_false_iff] at h
  obtain ⟨h1, h2⟩ := h
  have h3 : p.length ≤ 40 := by simpa using h1
  refine ⟨h3, fun s hs => ?_⟩
  rw [List.take_of_length_le (by omega), List.any_eq_false] at h2
  have := h2 s hs
  simpa [bigB] using this
end Go.Proofs.YtmmbblfmhcegcaaGreat

namespace Go.Proofs.YtmmbblfmhcegcaaGreat

theorem posFrom_append (p q : List Sp) (i : Nat) : posFrom i (p ++ q) = posFrom i p ++ posFrom (i + p.length) q := by
  induction p generalizing i with
  | nil => simp [posFrom]
  | cons s p ih =>
    simp only [List.cons_append, posFrom, List.length_cons]
    rw [ih, show i + (p.length + 1) = i + 1 + p.length by omega]
    split <;> simp
theorem pos_snoc {p : List Sp} {k : Nat} {s : Sp} (h : p[k]? = some s) : positive (p.take (k + 1)) = positive (p.take k) ++ (if s.neg then [] else [(k : Int)]) := by
  have hk := (List.getElem?_eq_some_iff.1 h).1
  have hl : (p.take k).length = k := by simp; omega
  simp only [positive, List.take_add_one, h, Option.toList_some]
  rw [posFrom_append, hl]
  simp [posFrom]
theorem posFrom_len (p : List Sp) (i : Nat) : (posFrom i p).length ≤ p.length := by
  induction p generalizing i with
  | nil => simp [posFrom]
  | cons s p ih =>
    have := ih (i + 1)
    simp only [posFrom]
    split <;> simp <;> omega
theorem pos_len (p : List Sp) (k : Nat) : (positive (p.take k)).length ≤ k := by
  have := posFrom_len (p.take k) 0
  have h2 : (p.take k).length ≤ k := List.length_take_le _ _
  unfold positive
  omega
theorem posFrom_mem {p : List Sp} {i : Nat} {x : Int} (h : x ∈ posFrom i p) : ∃ (k : Nat) (s : Sp), x = ((i + k : Nat) : Int) ∧ p[k]? = some s ∧ s.neg = false := by
  induction p generalizing i with
  | nil => simp [posFrom] at h
  | cons s p ih =>
    simp only [posFrom] at h
    split at h
    · obtain ⟨k, t, rfl, h1, h2⟩ := ih h
      exact ⟨k + 1, t, by omega, by simpa using h1, h2⟩
    · rcases List.mem_cons.1 h with rfl | h
      · exact ⟨0, s, by simp, rfl, by rename_i hn; simpa using hn⟩
      · obtain ⟨k, t, rfl, h1, h2⟩ := ih h
        exact ⟨k + 1, t, by omega, by simpa using h1, h2⟩

/-- The sum of the lesser numbers of the first k positive steps. -/
def sumAt (f : Sp → Int) (p : List Sp) (l : List Int) : Int := (l.map fun i => f (stepAt p i.toNat)).sum
theorem sumAt_pos (f : Sp → Int) (p : List Sp) : sumAt f p (positive p) = (p.map fun s => if s.neg then 0 else f s).sum := by
  have key : ∀ (q : List Sp) (i : Nat), (∀ k s, q[k]? = some s → stepAt p (i + k) = s) → sumAt f p (posFrom i q) = (q.map fun s => if s.neg then 0 else f s).sum := by
    intro q
    induction q with
    | nil => intro i _; simp [posFrom, sumAt]
    | cons s q ih =>
      intro i h
      have h0 : stepAt p i = s := by simpa using h 0 s rfl
      have h1 := ih (i + 1) (fun k t ht => by rw [show i + 1 + k = i + (k + 1) by omega]; exact h (k + 1) t (by simpa using ht))
      simp only [posFrom, List.map_cons, List.sum_cons]
      split
      · rw [h1]; simp
      · simp only [sumAt, List.map_cons, List.sum_cons, Int.toNat_natCast, h0] at h1 ⊢
        rw [h1]
  exact key p 0 (fun k s h => by simp [stepAt, h])
theorem sumAt_snoc {f : Sp → Int} {p : List Sp} {l : List Int} {k : Nat} {i : Int} (h : l[k]? = some i) : sumAt f p (l.take (k + 1)) = sumAt f p (l.take k) + f (stepAt p i.toNat) := by
  simp [sumAt, List.take_add_one, h]
theorem within_bd (n : Int) : 0 ≤ within n ∧ within n ≤ 1099511627776 := by unfold within; omega
theorem sumAt_bd {f : Sp → Int} (hf : ∀ s, 0 ≤ f s ∧ f s ≤ 1099511627776) (p : List Sp) (l : List Int) : 0 ≤ sumAt f p l ∧ sumAt f p l ≤ 1099511627776 * (l.length : Int) := by
  induction l with
  | nil => simp [sumAt]
  | cons x l ih =>
    have := hf (stepAt p x.toNat)
    simp only [sumAt, List.map_cons, List.sum_cons, List.length_cons] at *
    omega
end Go.Proofs.YtmmbblfmhcegcaaGreat
