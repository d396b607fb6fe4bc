/- A loop over an iterator, in the form in which the walks of this claim use it (Derived.RangeFuncWrites' law, at the wide fence), and a function's end behind it. -/
import Derived.Test.YtidddeobachjgaaLib0
import Derived.RangeFuncNested
import Derived.RangeFuncBound
import Derived.RangeFuncCalls
import Derived.RangeFuncLeaves
import Derived.RangeFuncBox
import Derived.Shelf.Abstract
import Derived.OwnWalkIn
import Derived.TacticsInMore
import Derived.LoopNIn
import Derived.LoopIn
namespace Go.Proofs.Ytidddeobachjgaa
open Go.RowKit Go.Shelf

/-- Block g is just the cells cs of element type t, none frozen. -/
def Blk (w : World) (g : Nat) (t : TypeId) (cs : Array Value) : Prop := w.heap[g]? = some (.cells cs t (0, 0))
section
variable {w w' : World} {g : Nat} {t : TypeId} {cs : Array Value}
theorem Blk.lt (h : Blk w g t cs) : g < w.heap.size := (Array.getElem?_eq_some_iff.1 h).1
theorem Blk.cell (h : Blk w g t cs) (i : Nat) : w.cell? ⟨g, i, none⟩ = cs[i]? := cell_of_row w g i cs t (0, 0) h
theorem Blk.frozen (h : Blk w g t cs) (i : Nat) : w.frozen? ⟨g, i, none⟩ = false := by
  unfold Blk at h
  simp [World.frozen?, h]
theorem Blk.new (w : World) (t : TypeId) (cs : Array Value) : Blk (w.alloc (.cells cs t)) w.heap.size t cs := heap_alloc_new w _
theorem Blk.new_ {w : World} {g : Nat} (hg : g = w.heap.size) (t : TypeId) (cs : Array Value) : Blk (w.alloc (.cells cs t)) g t cs := hg ▸ heap_alloc_new w _
theorem Blk.alloc (h : Blk w g t cs) (o : Obj) : Blk (w.alloc o) g t cs := (Below.heap_alloc w o g h.lt).trans h
theorem Blk.set_ (h : Blk w g t cs) (i : Nat) (u : Value) : Blk (w.setCell ⟨g, i, none⟩ u) g t (cs.setIfInBounds i u) := by
  unfold Blk at h ⊢
  simp [World.setCell, Array.getElem?_modify, h]
theorem Blk.far (h : Blk w g t cs) {p : Addr} (hp : g ≠ p.block) (u : Value) : Blk (w.setCell p u) g t cs := (Below.heap_setCell w p u g hp).trans h
theorem Blk.below {B : Nat} (h : Blk w g t cs) (hb : Below B w w') (hg : g < B) : Blk w' g t cs := (hb.block g hg).trans h
theorem Blk.kept {B : Nat} (h : Blk w g t cs) (hb : Kept B w w') : Blk w' g t cs := hb.cells _ _ h rfl
theorem Blk.putObj (h : Blk w g t cs) {l : Nat} {o o' : Obj} (hl : w.heap[l]? = some o) (ho : o.isCells = false) : Blk (w.putObj l o') g t cs :=
  (World.putObj_heap_other (by rintro rfl; rw [show w.heap[g]? = _ from h] at hl; cases hl; cases ho)).trans h
theorem Blk.c4 {x0 x1 x2 x3 : Value} (h : Blk w g t #[x0, x1, x2, x3]) : w.cell? ⟨g, 0, none⟩ = some x0 ∧ w.cell? ⟨g, 1, none⟩ = some x1 ∧ w.cell? ⟨g, 2, none⟩ = some x2 ∧ w.cell? ⟨g, 3, none⟩ = some x3 := ⟨h.cell 0, h.cell 1, h.cell 2, h.cell 3⟩
theorem Blk.one {v : Value} (h : Blk w g t #[v]) : w.cell? ⟨g, 0, none⟩ = some v := h.cell 0
end

/-- A contract whose call leaves all that was there as it was, said for the blocks below G, in the form that a walk goes on with. -/
theorem stay {P : Program} {f : FuncId} {args : Array Value} {W : World} {E : Ending} {G : Nat} (h : Calls P f args W fun e w' => e = E ∧ Below W.heap.size W w') (hG : G ≤ W.heap.size) :
    Calls P f args W fun e w' => e = E ∧ (∀ b o, b < G → w'.cell? ⟨b, o, none⟩ = W.cell? ⟨b, o, none⟩) ∧ G ≤ w'.heap.size ∧ Hid (Below G W w') :=
  h.mono fun _ _ ⟨he, hb⟩ => ⟨he, fun _ _ hlt => (hb.mono hG).cell (p := ⟨_, _, none⟩) hlt, Nat.le_trans hG hb.size, hb.mono hG⟩

theorem hid_refl (G : Nat) (W : World) : Hid (Below G W W) := Below.refl _ _
theorem hid_drew (G : Nat) (W : World) : Hid (Below G W W.drew) := (Below.refl _ _).drew
theorem hid_trans {G : Nat} {A B C : World} (h : Hid (Below G A B)) (k : Hid (Below G B C)) : Hid (Below G A C) := Below.trans h k

theorem ownFrom_kept {β : Type} {B : Nat} {I : β → World → Prop} (h : ∀ s W W', I s W → Kept B W W' → I s W') : OwnFrom B (fun s W => I s W ∧ B ≤ W.heap.size) :=
  fun s W W' _ hs hg hr => ⟨h s W W' hs.1 (Kept.of_grown hs.2 hg hr), Nat.le_trans hs.2 hg.size⟩

theorem rf_law {P : Program} {α : Type} {g : Operand} {ps : Array Tmp} {assign body : Code} {Q : Exit → Act → World → Prop} {a : Act} {w : World}
    {gf : Nat} {lb : Array Value} (hg : a.eval g = .func (.func gf) #[] lb) (eg : ∀ args w, (callFunc gf args).run P w = .ok (.enter gf args) w)
    {encs : α → Array Value} {Kp : World → World → Prop} {S Sp : List α → Prop} {N : Nat} (hseq : SeqStopsK Fence.wide 2 P gf lb encs Kp S Sp N w)
    (hKt : ∀ {A B C : World}, Kp A B → Kp B C → Kp A C) (hKb : ∀ (W : World) (l : Nat) (o o' : Obj), w.heap.size ≤ l → W.heap[l]? = some o → o.isCells = false → o.isWalk = false → Kp W (W.putObj l o')) (hps : ∀ x, (encs x).size = ps.size)
    (I : List α → World → Prop) (Ix : Code → List α → World → Prop) (hI : ∀ pre W W', I pre W → Kept w.heap.size W W' → I pre W') (hIx : ∀ c pre W W', Ix c pre W → Kept w.heap.size W W' → Ix c pre W') (h0 : I [] w) (a₁ : α → Act)
    (hassign : ∀ (l : Nat) (x : α) (W : World) (K : Act → World → Prop), K (a₁ x) W →
      assign.wpIn (Fence.wide.inRound l) 1 P (Exit.then K (fun _ _ _ => False)) { tmps := (ps.zip (encs x)).foldl (fun t (p, v) => t.setIfInBounds p v) a.tmps, defers := [] } W)
    (hbody : ∀ (l : Nat) (pre : List α) (x : α) (W : World), w.heap.size ≤ W.heap.size → I pre W → pre.length < N → body.wpIn (Fence.wide.inRound l) 1 P (ownPostG w.heap.size Kp I Ix (pre ++ [x]) W) (a₁ x) W)
    (hdone : ∀ (D : Nat) (xs : List α) (W : World), w.heap.size ≤ D → S xs → I xs W → W.heap[D]? = some (.deferred (some [])) → Q .normal { a with defers := { target := .collected D, args := #[] } :: a.defers } W)
    (hstop : ∀ (D : Nat) (c : Code) (pre : List α) (W : World), w.heap.size ≤ D → Sp pre → Ix c pre W → W.heap[D]? = some (.deferred (some [])) → c.wpIn Fence.wide 3 P Q { a with defers := { target := .collected D, args := #[] } :: a.defers } W) :
    (Code.rangeFunc g ps assign body).wpIn Fence.wide 3 P Q a w := by
  refine wpIn_rangeFunc_ownG rfl (by omega) hg trivial eg hseq (fun h k => hKt h k) hKb (Below.refl _ _) hps (fun s W => I s W ∧ w.heap.size ≤ W.heap.size) (fun c s W => Ix c s W ∧ w.heap.size ≤ W.heap.size)
    (ownFrom_kept hI) (fun c => ownFrom_kept (hIx c)) ⟨h0, Nat.le_refl _⟩ a₁ hassign (fun l pre x W hi hl => wpIn_mono (hbody l pre x W hi.2 hi.1 hl) ?_) (fun D xs W hD hS hi hK => hdone D xs W hD hS hi.1 hK) (fun D c pre W hD hS hi hK => hstop D c pre W hD hS hi.1 hK)
  intro e a' W' h
  cases e with
  | normal => exact ⟨h.1, h.2.1, h.2.2, Nat.le_trans hi.2 h.1.size⟩
  | ret => exact ⟨h.1, h.2, Nat.le_trans hi.2 h.1.size⟩
  | exit id => exact ⟨h.1, h.2, Nat.le_trans hi.2 h.1.size⟩
  | goto t => exact ⟨h.1, h.2, Nat.le_trans hi.2 h.1.size⟩
  | panic c => exact h
  | outgrown => exact h

theorem rf_ret {P : Program} {fn : Func} {R : Ending → World → Prop} {a : Act} {W : World} {D : Nat} {v : Value} (hd : a.defers = [{ target := .collected D, args := #[] }]) (hK : W.heap[D]? = some (.deferred (some [])))
    (hr : (results fn a.tmps).run P (W.putObj D (.deferred none)) = .ok v (W.putObj D (.deferred none))) (hR : R (.returned v) (W.putObj D (.deferred none))) : bodyPostM Fence.wide 3 P fn R .ret a W := by
  show LeavesInM Fence.wide 3 P fn a.tmps R a.defers .returning W
  rw [hd]
  exact ⟨by simp, .inl ⟨_, _, rfl, run_takeDeferred hK, ⟨_, hr, hR⟩⟩⟩
theorem rf_end {P : Program} {fn : Func} {R : Ending → World → Prop} {a : Act} {W : World} {D : Nat} {v : Value} (hd : a.defers = [{ target := .collected D, args := #[] }]) (hK : W.heap[D]? = some (.deferred (some [])))
    (hr : (results fn a.tmps).run P (W.putObj D (.deferred none)) = .ok v (W.putObj D (.deferred none))) (hR : R (.returned v) (W.putObj D (.deferred none))) : bodyPostM Fence.wide 3 P fn R .normal a W := rf_ret hd hK hr hR
theorem Below.putD {n : Nat} {a W : World} (h : Below n a W) (hn : n ≤ W.heap.size) {D : Nat} (hD : n ≤ D) (o : Obj) : Below n a (W.putObj D o) :=
  h.trans ((Below.refl n W).grown (grownBy_putObj' W D o) hn (fun k e => by cases e; exact hD))
theorem keepsFrom_alloc (B : Nat) (W : World) (o : Obj) : KeepsFrom B W (W.alloc o) := (KeepsOthers.alloc W o).from B
theorem keepsFrom_set (B : Nat) (W : World) (p : Addr) (u : Value) : KeepsFrom B W (W.setCell p u) := (KeepsOthers.setCell W p u).from B
end Go.Proofs.Ytidddeobachjgaa
