/- Small laws that the walks of this claim lean on: a scope out of which a goto jumps ahead. -/
import Derived.Test.YtidddeobachjgaaRows
import Derived.ScopeJumps
import Derived.ControlIn
import Derived.WalkKit
import Derived.RangeFuncNested
namespace Go.Proofs.Ytidddeobachjgaa
open Go.RowKit

theorem wp_scope_fwd {P : Program} {Q : Exit → Act → World → Prop} {a : Act} {w : World} {c rest : Code} (l : Nat) (hf : findLabel c l = some rest)
    (first : c.wp P (Exit.jump l (fun a w => rest.wp P (Exit.noGoto Q) a w) Q) a w) : (Code.scope c).wp P Q a w :=
  wp_scope_jumps l _ (fun _ _ => 0) hf first fun a w h => wp_mono h fun e a' w' hq => by
    cases e <;> first | exact hq | exact hq.elim
theorem hide {p : Prop} (h : p) : Hid p := h
theorem ret_noGoto {Q : Exit → Act → World → Prop} {a : Act} {w : World} (h : Q .ret a w) : Exit.noGoto Q .ret a w := h
theorem ret_jump {l : Nat} {J : Act → World → Prop} {Q : Exit → Act → World → Prop} {a : Act} {w : World} (h : Q .ret a w) : Exit.jump l J Q .ret a w := h

/-- From A to B all blocks below n, and all blocks of cells, are as they were. -/
structure Kept (n : Nat) (A B : World) : Prop where
  below : Below n A B
  cells : ∀ (k : Nat) (o : Obj), A.heap[k]? = some o → o.isCells = true → B.heap[k]? = some o
theorem Kept.of_grown {n : Nat} {A B : World} {row : Option Nat} (hn : n ≤ A.heap.size) (hg : A.grownBy B row) (hr : ∀ r, row = some r → n ≤ r ∧ ∃ o : Obj, A.heap[r]? = some o ∧ o.isCells = false) : Kept n A B :=
  ⟨(Below.refl n A).grown hg hn (fun k e => (hr k e).1), fun k o hk ho => by
    have hlt : k < A.heap.size := (Array.getElem?_eq_some_iff.1 hk).1
    rw [hg.block k hlt (fun e => by
      obtain ⟨_, o', ho', hc⟩ := hr k e.symm
      rw [hk] at ho'; cases ho'; rw [ho] at hc; cases hc)]
    exact hk⟩
theorem Kept.cell {n : Nat} {A B : World} (h : Kept n A B) {p : Addr} {v : Value} (hc : A.cell? p = some v) : B.cell? p = some v := by
  have : ∃ o : Obj, A.heap[p.block]? = some o ∧ o.isCells = true := by
    unfold World.cell? at hc
    split at hc
    · rename_i heq; exact ⟨_, heq, rfl⟩
    · cases hc
  obtain ⟨o, ho, hi⟩ := this
  exact (World.cell?_of_block (w := A) (a := p) ((h.cells _ o ho hi).trans ho.symm)).trans hc
theorem bcell {W w1 : World} (hb : Below W.heap.size W w1) : (∀ b o, b < W.heap.size → w1.cell? ⟨b, o, none⟩ = W.cell? ⟨b, o, none⟩) ∧ (∀ b o, b < W.heap.size → w1.frozen? ⟨b, o, none⟩ = W.frozen? ⟨b, o, none⟩) :=
  ⟨fun b o h => hb.cell (p := ⟨b, o, none⟩) h, fun b o h => hb.frozen (p := ⟨b, o, none⟩) h⟩
end Go.Proofs.Ytidddeobachjgaa
