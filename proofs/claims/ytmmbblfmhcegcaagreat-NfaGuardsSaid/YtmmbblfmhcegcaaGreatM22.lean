/- Several texts of one proof: A drawn region that reads, calls what makes a row of ints, and stores that row in a field of a row of structs: 'a.States[i].Guards = f(..)'. | Automata told in memory of their own: the walk of nfa.Own. | The states behind one: the walk of nfa.Next. -/
import Derived.Test.YtmmbblfmhcegcaaGreatM02
import Derived.Test.YtmmbblfmhcegcaaGreatM01
import Derived.Test.YtmmbblfmhcegcaaGreatM19
import Derived.Test.YtmmbblfmhcegcaaGreatM15
import Derived.Deep.Cut
import Derived.Deep.CutRange
import Derived.Deep.RegionWith
import Derived.Test.YtmmbblfmhcegcaaGreatM04

namespace Go.Proofs.YtmmbblfmhcegcaaGreat
open Go.RowKit

/-- Field k of block g bears a row of the call's own, of the numbers cs. -/
def Storedi (G g k : Nat) (W : World) (cs : List Int) (w : World) : Prop := ∃ u, OwI w G u cs ∧ w.heap[g]? = (W.setCell ⟨g, k, none⟩ u).heap[g]?
def CWi (G g k : Nat) (W : World) (cs : List Int) (w : World) : Prop := W.grownBy w (some g) ∧ G ≤ w.heap.size ∧ (w.heap[g]? = W.heap[g]? ∨ Storedi G g k W cs w)
open Classical in
noncomputable def grownWi (G g k : Nat) (W : World) (cs : List Int) (x : World) : World := if CWi G g k W cs x then x else W
section
variable {G g k : Nat} {W x w w' : World} {cs : List Int}
theorem grownWi_of (h : CWi G g k W cs x) : grownWi G g k W cs x = x := if_pos h
theorem grownWi_is (hG : G ≤ W.heap.size) : CWi G g k W cs (grownWi G g k W cs x) := by
  unfold grownWi
  split
  · rename_i h; exact h
  · exact ⟨World.grownBy.refl _ _, hG, .inl rfl⟩
theorem grownWi_cell (hG : G = W.heap.size) {b : Nat} (o : Nat) (hb : b < G) (hne : b ≠ g) : (grownWi G g k W cs x).cell? ⟨b, o, none⟩ = W.cell? ⟨b, o, none⟩ :=
  World.cell?_of_block ((grownWi_is (Nat.le_of_eq hG)).1.block b (by omega) (fun e => hne (Option.some.inj e)))
theorem Storedi.below (h : Storedi G g k W cs w) (hb : Below w.heap.size w w') (hg : g < w.heap.size) : Storedi G g k W cs w' := by
  obtain ⟨u, h1, h2⟩ := h
  exact ⟨u, h1.below hb (Nat.le_refl _), (hb.block g hg).trans h2⟩
/-- The field after the store, whatever stood there. -/
theorem CWi.set (h : CWi G g k W cs w) (hg : g < G) {u : Value} (hu : OwI w G u cs) : Storedi G g k W cs (w.setCell ⟨g, k, none⟩ u) := by
  refine ⟨u, OwI.set (p := ⟨g, k, none⟩) hu (fun e => ?_) u, ?_⟩
  · have := OwI.lt hu g e
    omega
  · rcases h.2.2 with e | ⟨u', -, e⟩
    · simp only [World.setCell, Array.getElem?_modify, e]
    · simp only [World.setCell, Array.getElem?_modify, if_true] at e ⊢
      rw [e]
      cases W.heap[g]? with
      | none => rfl
      | some o =>
        cases o <;> simp
theorem CWi.below (h : CWi G g k W cs w) (hb : Below w.heap.size w w') (hg : g < w.heap.size) : CWi G g k W cs w' := by
  refine ⟨⟨hb.os.trans h.1.os, hb.tape.trans h.1.tape, hb.output.trans h.1.output, Nat.le_trans h.1.size hb.size, fun j hj hne => ?_⟩, Nat.le_trans h.2.1 hb.size, ?_⟩
  · exact (hb.block j (Nat.lt_of_lt_of_le hj h.1.size)).trans (h.1.block j hj hne)
  · rcases h.2.2 with e | e
    · exact .inl ((hb.block g hg).trans e)
    · exact .inr (e.below hb hg)
theorem CWi.stored (h : CWi G g k W cs w) (hg : g < G) {u : Value} (hu : OwI w G u cs) : CWi G g k W cs (w.setCell ⟨g, k, none⟩ u) := by
  refine ⟨⟨h.1.os, h.1.tape, h.1.output, by simpa [World.setCell] using h.1.size, fun j hj hne => ?_⟩, by simpa [World.setCell] using h.2.1, .inr (h.set hg hu)⟩
  exact (Below.heap_setCell _ _ _ _ (fun e => hne (by simpa using e))).trans (h.1.block j hj hne)
end

def SlcVi (n : Nat) (v : Value) : Prop := ∃ A cap, v = .slice A n cap
def EWi (G g k : Nat) (cs : List Int) (w w' : World) : Prop := (Below w.heap.size w w' ∧ g < w.heap.size) ∨ ∃ u, OwI w G u cs ∧ Storedi G g k w cs w' ∧ w' = w.setCell ⟨g, k, none⟩ u
def pfWi (G g k : Nat) (W : World) (cs : List Int) (i1 i2 : Nat) (j : Nat) : Option ((Value → Prop) × ((Nat → Value) → Value → World → Prop)) :=
  if j = i1 then some (SlcVi cs.length, fun _ v w => OwI w G v cs)
  else if j = i2 then some (fun v => v = undef, fun _ _ w => Storedi G g k W cs w)
  else none
def dWi (i1 i2 : Nat) (j : Nat) : List Nat := if j = i2 then [i1] else []

theorem wp_region_cmpsi {P : Program} {id : Nat} {Q : Exit → Act → World → Prop} {a : Act} {w : World} {l : List Oper} (G g k : Nat) (cs : List Int) (i1 i2 : Nat) (hG : G = w.heap.size) (hg : g < G)
    (hm : P.follows .mixedOrders = true) (hB : relB l.toArray (dWi i1 i2) = true)
    (h : wpRel P l.toArray (fun w' => ∃ n, w' = grownWi G g k w cs n) (fun w1 w2 => CWi G g k w cs w1 ∧ EWi G g k cs w1 w2) (pfWi G g k w cs i1 i2) (dWi i1 i2) (fun a' w' => Q .normal a' w') l 0 (fun _ => undef) [] a) : (Code.region id l.toArray true).wp P Q a w := by
  refine wp_region_rel (fun w' => ∃ n, w' = grownWi G g k w cs n) (fun w1 w2 => CWi G g k w cs w1 ∧ EWi G g k cs w1 w2) (pfWi G g k w cs i1 i2) (dWi i1 i2) hm hB ?_ ?_ ?_ ?_ h
  · intro j R hR vs vs' v w' hd hr
    unfold pfWi at hR
    split at hR
    · cases hR; exact hr
    · split at hR
      · cases hR; exact hr
      · cases hR
  · intro j R hR
    unfold pfWi at hR
    split at hR
    · cases hR; exact ⟨_, none, 0, rfl⟩
    · split at hR
      · cases hR; exact ⟨_, rfl⟩
      · cases hR
  · intro j R hR vs v w1 w2 hr _ hE
    obtain ⟨hC1, hE⟩ := hE
    unfold pfWi at hR
    split at hR
    · cases hR
      have hr' : OwI w1 G v cs := hr
      show OwI w2 G v cs
      rcases hE with ⟨hE, -⟩ | ⟨u, hu, -, rfl⟩
      · exact hr'.below hE (Nat.le_refl _)
      · exact OwI.set (p := ⟨g, k, none⟩) hr' (fun e => by have := OwI.lt hr' g e; omega) u
    · split at hR
      · cases hR
        have hr' : Storedi G g k w cs w1 := hr
        show Storedi G g k w cs w2
        rcases hE with ⟨hE, hlt⟩ | ⟨u, hu, -, rfl⟩
        · exact hr'.below hE hlt
        · exact hC1.set hg hu
      · cases hR
  · have hc : CWi G g k w cs w.drew := ⟨⟨rfl, rfl, rfl, Nat.le_refl _, fun _ _ _ => rfl⟩, Nat.le_of_eq hG, .inl rfl⟩
    exact ⟨w.drew, (grownWi_of hc).symm⟩
end Go.Proofs.YtmmbblfmhcegcaaGreat

namespace Go.Proofs.YtmmbblfmhcegcaaGreat
open Go.RowKit
attribute [local go_sem] relVal relEff dWi

theorem calls_Wi {P : Program} {f : FuncId} {args : Array Value} {G g k : Nat} {W x : World} {cs : List Int} (hG : G = W.heap.size) (hg : g < G) (h : ∀ w1, CWi G g k W cs w1 → Calls P f args w1 fun e w' => (∃ v, e = .returned v ∧ OwI w' w1.heap.size v cs) ∧ Below w1.heap.size w1 w') :
    Calls P f args (grownWi G g k W cs x) fun e w'' => ∃ v, e = .returned v ∧ (∃ n, w'' = grownWi G g k W cs n) ∧ (CWi G g k W cs (grownWi G g k W cs x) ∧ EWi G g k cs (grownWi G g k W cs x) w'') ∧ SlcVi cs.length v ∧ OwI w'' G v cs := by
  have hC : CWi G g k W cs (grownWi G g k W cs x) := grownWi_is (Nat.le_of_eq hG)
  refine (h _ hC).mono ?_
  rintro e w'' ⟨⟨v, rfl, ho⟩, hb⟩
  have hlt : g < (grownWi G g k W cs x).heap.size := Nat.lt_of_lt_of_le hg hC.2.1
  exact ⟨v, rfl, ⟨w'', (grownWi_of (hC.below hb hlt)).symm⟩, ⟨hC, .inl ⟨hb, hlt⟩⟩, ho.form, ho.mono hC.2.1⟩
theorem CWi.fld {G g k : Nat} {W w : World} {cs : List Int} (h : CWi G g k W cs w) {cur : Array Value} {t : TypeId} (hc : W.heap[g]? = some (.cells cur t (0, 0))) (hk : k < cur.size) : (∃ u, w.cell? ⟨g, k, none⟩ = some u) ∧ w.frozen? ⟨g, k, none⟩ = false := by
  rcases h.2.2 with e | ⟨u, -, e⟩
  · exact blk_at (e.trans hc) k hk
  · refine blk_at (cur := cur.setIfInBounds k u) (t := t) ?_ k (by simpa using hk)
    rw [e]
    simp [World.setCell, Array.getElem?_modify, hc]
theorem own_same {w w' : World} {base size n : Nat} {e : TypeId} {v : Value} {xs : List Value} (h : w.ownsRow base e size v n xs) (hs : ∀ g, v.ownBlock = some g → w'.heap[g]? = w.heap[g]?) : w'.ownsRow base e size v n xs := by
  refine ⟨h.1, ?_⟩
  rcases h.2 with h2 | ⟨g, cap, cur, hv, hg, hh, r⟩
  · exact .inl h2
  · exact .inr ⟨g, cap, cur, hv, hg, (hs g (by rw [hv]; rfl)).trans hh, r⟩

/-- The states' guards lie ahead of the call, or in rows of its own. -/
def GsOk (w : World) (n0 : Nat) (zs : List (St × Value)) : Prop := ∀ x ∈ zs, RdI w n0 x.2 x.1.guards ∨ OwI w (n0 + 2) x.2 x.1.guards
theorem GsOk.below {w w' : World} {n0 : Nat} {zs : List (St × Value)} (h : GsOk w n0 zs) (hb : Below w.heap.size w w') (hn : n0 ≤ w.heap.size) : GsOk w' n0 zs := fun x hx => (h x hx).imp (fun h => RdI.below h (hb.mono hn) (Nat.le_refl _)) (fun h => h.below hb (Nat.le_refl _))
theorem GsOk.rd {w : World} {n0 : Nat} {zs : List (St × Value)} (h : GsOk w n0 zs) (hn : n0 ≤ w.heap.size) : ∀ x ∈ zs, RdI w w.heap.size x.2 x.1.guards := fun x hx => (h x hx).elim (fun h => RdI.below h (Below.refl _ _) hn) (fun h => h.rd)
theorem gs_keep {V w1 : World} {n0 g : Nat} {u : Value} {gs : List Int} {cap n : Nat} {zs : List (St × Value)} (h : RdI V n0 u gs ∨ OwI V (n0 + 2) u gs) (hrow : OwS V (n0 + 2) (.slice (some ⟨g, 0, none⟩) n cap) zs) (hC : V.grownBy w1 (some g)) (hn : n0 + 2 ≤ V.heap.size) (hz : V.heap.size ≤ w1.heap.size) : RdI w1 w1.heap.size u gs := by
  have hgb : n0 + 2 ≤ g ∧ g < V.heap.size := World.ownsRow.lt hrow g rfl
  rcases h with h | h
  · exact RdI.below h ⟨hC.os, hC.tape, hC.output, hC.size, fun j hj => hC.block j (by omega) (fun e => by have := Option.some.inj e; omega)⟩ (by omega)
  · exact (h.kept hC (own_ne h hrow (by decide))).rd
/-- One state's guards more. -/
theorem own_next {V w7 : World} {n0 g cap k : Nat} {zs : List (St × Value)} {s : St} {u u' : Value} (hrow : OwS V (n0 + 2) (.slice (some ⟨g, 0, none⟩) zs.length cap) zs) (hgs : GsOk V n0 zs) (hx : zs[k]? = some (s, u)) (hbV : n0 + 2 ≤ V.heap.size)
    (hC : V.grownBy w7 (some g)) (hu : OwI w7 V.heap.size u' s.guards) (hg : w7.heap[g]? = (V.setCell ⟨g, k * 6 + 3, none⟩ u').heap[g]?) :
    OwS w7 (n0 + 2) (.slice (some ⟨g, 0, none⟩) zs.length cap) (zs.set k (s, u')) ∧ GsOk w7 n0 (zs.set k (s, u')) ∧ (zs.set k (s, u')).map (·.1) = zs.map (·.1) := by
  have hgb : n0 + 2 ≤ g ∧ g < V.heap.size := World.ownsRow.lt hrow g rfl
  have hbel : Below n0 V w7 := ⟨hC.os, hC.tape, hC.output, hC.size, fun j hj => hC.block j (by omega) (fun e => by have := Option.some.inj e; omega)⟩
  refine ⟨?_, fun x hx' => ?_, ?_⟩
  · have hst := (World.ownsRow.stored hrow (k * 6 + 3) u').1
    rw [flat_set st_len hx (by omega) (y := (s, u')) (by rfl)] at hst
    have := own_same hst (w' := w7) (fun g' e => by have : g = g' := Option.some.inj e; subst this; exact hg)
    simpa [OwS] using this
  · rcases List.mem_or_eq_of_mem_set hx' with hm | rfl
    · exact (hgs x hm).imp (fun h => RdI.below h hbel (Nat.le_refl _)) (fun h => h.kept hC (own_ne h hrow (by decide)))
    · exact .inr (hu.mono hbV)
  · rw [List.map_set]
    apply List.ext_getElem?
    intro j
    by_cases e : k = j
    · subst e
      obtain ⟨hk, he⟩ := List.getElem?_eq_some_iff.1 hx
      simp [hk, he]
    · simp [e]
/-- Both slices are stored. -/
theorem nown_first {w W w1 w2 : World} {l : List St} {a : List Int} {win : Int} {A A1 A2 : Option Addr} {zs : List (St × Value)} {cap k1 k2 : Nat} {Aa : Value} (hbW : Below w.heap.size w W) (hz : W.heap.size = w.heap.size + 2)
    (b2 : Blk W (w.heap.size + 1) 30 #[.slice none 0 0, .slice none 0 0, .int .i64 0]) (hrow : OwS w1 W.drew.heap.size (.slice A1 zs.length k1) zs) (hps : zs.map (·.1) = l) (hrd : ∀ x ∈ zs, RdI W.drew w.heap.size x.2 x.1.guards) (hB1 : Below W.drew.heap.size W.drew w1)
    (b12 : Blk w2 w.heap.size 30 #[.slice A l.length cap, Aa, .int .i64 win]) (hown2 : OwI w2 w1.heap.size (.slice A2 a.length k2) a) (hB2 : Below w1.heap.size w1 w2) {F : World}
    (hF : F = (w2.setCell ⟨w.heap.size, 0, none⟩ (.slice A1 zs.length k1)).setCell ⟨w.heap.size, 1, none⟩ (.slice A2 a.length k2)) :
    Blk F w.heap.size 30 #[.slice A1 zs.length k1, .slice A2 a.length k2, .int .i64 win] ∧ Blk F (w.heap.size + 1) 30 #[.slice none 0 0, .slice none 0 0, .int .i64 0] ∧
      OwS F (w.heap.size + 2) (.slice A1 zs.length k1) zs ∧ OwI F (w.heap.size + 2) (.slice A2 a.length k2) a ∧ zs.map (·.1) = l ∧ GsOk F w.heap.size zs ∧ Below w.heap.size w F ∧ w.heap.size + 2 ≤ F.heap.size := by
  subst hF
  have z0 : W.drew.heap.size = w.heap.size + 2 := hz
  have z1 := hB1.size
  have z2 := hB2.size
  have hne1 : some w.heap.size ≠ (Value.slice A1 zs.length k1).ownBlock := fun e => by have := (World.ownsRow.lt hrow _ e.symm).1; omega
  have hne2 : some w.heap.size ≠ (Value.slice A2 a.length k2).ownBlock := fun e => by have := (OwI.lt hown2 _ e.symm).1; omega
  have hB12 : Below W.drew.heap.size W.drew w2 := hB1.trans (hB2.mono z1)
  have h0 : Below w.heap.size W.drew ((w2.setCell ⟨w.heap.size, 0, none⟩ (.slice A1 zs.length k1)).setCell ⟨w.heap.size, 1, none⟩ (.slice A2 a.length k2)) :=
    ((hB12.mono (show w.heap.size ≤ W.drew.heap.size by omega)).setCell (p := ⟨w.heap.size, 0, none⟩) (Nat.le_refl _) _).setCell (p := ⟨w.heap.size, 1, none⟩) (Nat.le_refl _) _
  refine ⟨?_, ?_, ?_, ?_, hps, fun x hx => .inl (RdI.below (hrd x hx) h0 (Nat.le_refl _)), hbW.drew.trans h0, ?_⟩
  · simpa using (b12.set_ 0 (.slice A1 zs.length k1)).set_ 1 (.slice A2 a.length k2)
  · exact ((Blk.below (show Blk W.drew _ _ _ from b2) hB12 b2.lt).far (p := ⟨w.heap.size, 0, none⟩) (by simp) _).far (p := ⟨w.heap.size, 1, none⟩) (by simp) _
  · exact own_set (p := ⟨w.heap.size, 1, none⟩) (own_set (p := ⟨w.heap.size, 0, none⟩) (own_mono (own_below hrow hB2 (Nat.le_refl _)) (Nat.le_of_eq z0.symm)) hne1 _) hne1 _
  · exact own_set (p := ⟨w.heap.size, 1, none⟩) (own_set (p := ⟨w.heap.size, 0, none⟩) (own_mono hown2 (by omega)) hne2 _) hne2 _
  · simp [World.setCell]
    omega

set_option maxRecDepth 100000 in
set_option maxHeartbeats 4000000 in
theorem nown_any (l : List St) (a : List Int) (win : Int) (lv av : Value) (w : World) (h : RdT w w.heap.size lv l) (ha : RdI w w.heap.size av a) (hlen : l.length ≤ 1000) (hal : a.length ≤ 1000) (hgl : ∀ s ∈ l, s.guards.length ≤ 1000) :
    Calls Tryz.prog 21 #[atV lv av win] w fun e w' => (∃ lv' av', e = .returned (atV lv' av' win) ∧ RdT w' w'.heap.size lv' l ∧ RdI w' w'.heap.size av' a) ∧ Below w.heap.size w w' := by
  have hcs := hide fun w1 (hb : Below w.heap.size w w1) => clone_state l lv w1 w.heap.size (h.below hb (Nat.le_refl _)) hb.size (by omega)
  have hci := hide fun w1 (hb : Below w.heap.size w w1) => clone_ints a av w1 (ha.below hb hb.size) (by omega)
  obtain ⟨A, cap, hv⟩ : ∃ A c, lv = .slice A l.length c := by obtain ⟨A, c, b, off, e, -⟩ := h; exact ⟨A, c, e⟩
  subst hv
  obtain ⟨Aa, ka, rfl⟩ := rd_form ha
  replace hgl := hide hgl
  replace h := hide h
  replace ha := hide ha
  go_enter Tryz.func21, Tryz.ntmps21
  go_upto_region 1 with (fail)
  obtain ⟨W, hW⟩ : ∃ W, (w.alloc (.cells #[.slice A l.length cap, .slice Aa a.length ka, .int .i64 win] 30)).alloc (.cells #[.slice none 0 0, .slice none 0 0, .int .i64 0] 30) = W := ⟨_, rfl⟩
  rw [hW]
  have hbW : Below w.heap.size w W := by rw [← hW]; exact ((Below.refl _ _).alloc (Nat.le_refl _) _).alloc (by simp) _
  have hzW : W.heap.size = w.heap.size + 2 := by rw [← hW]; simp
  have b1 : Blk W w.heap.size 30 #[.slice A l.length cap, .slice Aa a.length ka, .int .i64 win] := by rw [← hW]; exact (Blk.new_ rfl _ _).alloc _
  have b2 : Blk W (w.heap.size + 1) 30 #[.slice none 0 0, .slice none 0 0, .int .i64 0] := by rw [← hW]; exact Blk.new_ (by simp) _ _
  clear hW
  have x0 := b1.cell 0
  have x1 := b1.cell 1
  have x2 := b1.cell 2
  have f0 := b1.frozen 0
  have f1 := b1.frozen 1
  simp at x0 x1 x2
  replace hbW := hide hbW
  replace b1 := hide b1
  replace b2 := hide b2
  replace hzW := hide hzW
  go_cut [1] from 5 to 13 (fun x w' => x = .pointer (some ⟨w.heap.size, 0, none⟩) ∧ ∃ A1 k1 A2 k2 zs, Blk w' w.heap.size 30 #[.slice A1 zs.length k1, .slice A2 a.length k2, .int .i64 win] ∧ Blk w' (w.heap.size + 1) 30 #[.slice none 0 0, .slice none 0 0, .int .i64 0] ∧
    OwS w' (w.heap.size + 2) (.slice A1 zs.length k1) zs ∧ OwI w' (w.heap.size + 2) (.slice A2 a.length k2) a ∧ zs.map (·.1) = l ∧ GsOk w' w.heap.size zs ∧ Below w.heap.size w w' ∧ w.heap.size + 2 ≤ w'.heap.size)
  case first =>
    have hzw := hzW.out
    go_region_with (first
      | (go_at_call 35; (with_reducible refine (hcs.out _ hbW.out.drew).mono ?_); rintro e w1 ⟨⟨v1, zs, rfl, hrow, hps, hrd⟩, hB1⟩; obtain ⟨A1, k1, hv1⟩ := own_form hrow; subst hv1; have b11 := Blk.below (show Blk W.drew w.heap.size 30 #[.slice A l.length cap, .slice Aa a.length ka, .int .i64 win] from b1.out) hB1 b1.out.lt; have y0 := b11.cell 0; have y1 := b11.cell 1; have g0 := b11.frozen 0; have g1 := b11.frozen 1; simp at y0 y1; replace b11 := hide b11; replace hrow := hide hrow; replace hps := hide hps; replace hrd := hide hrd; replace hB1 := hide hB1)
      | (go_at_call 36; (with_reducible refine (hci.out _ (hbW.out.drew.trans (hB1.out.mono hbW.out.drew.size))).mono ?_); rintro e w2 ⟨⟨v2, rfl, hown2⟩, hB2⟩; obtain ⟨A2, k2, hv2⟩ := OwI.form hown2; subst hv2; have b12 := Blk.below b11.out hB2 b11.out.lt; have z0 := b12.cell 0; have z1 := b12.cell 1; have g2 := b12.frozen 0; have g3 := b12.frozen 1; simp at z0 z1; replace b12 := hide b12; replace hown2 := hide hown2; replace hB2 := hide hB2))
    all_goals go_wp2
    all_goals go_meet
    all_goals exact ⟨rfl, A1, k1, A2, k2, zs, nown_first hbW.out hzw b2.out hrow.out hps.out hrd.out hB1.out b12.out hown2.out hB2.out rfl⟩
  case rest =>
    obtain ⟨rfl, A1, k1, A2, k2, zs, hb0, hb1, hrow, hown, hps, hgs, hB, hz⟩ := hcut
    obtain ⟨V, rfl⟩ : ∃ V : World, V = wc := ⟨_, rfl⟩
    have hl1 : zs.length = l.length := by rw [← hps]; simp
    rw [hl1] at hrow hb0
    have e0 := hb0.cell 0
    simp at e0
    replace hps := hide hps
    clear hl1 hbW b1 b2 hzW x0 x1 x2 f0 f1 hcs hci
    replace hb0 := hide hb0
    replace hb1 := hide hb1
    replace hrow := hide hrow
    replace hown := hide hown
    go_wp2
    go_loopw [16] (fun i wr => ∃ (k : Nat) (qs : List (St × Value)), k ≤ l.length ∧ i = .int .i64 k ∧ OwS wr (w.heap.size + 2) (.slice A1 l.length k1) qs ∧ GsOk wr w.heap.size qs ∧ Hid (qs.map (·.1) = l) ∧ OwI wr (w.heap.size + 2) (.slice A2 a.length k2) a ∧
      Blk wr w.heap.size 30 #[.slice A1 l.length k1, .slice A2 a.length k2, .int .i64 win] ∧ Blk wr (w.heap.size + 1) 30 #[.slice none 0 0, .slice none 0 0, .int .i64 0] ∧ Below w.heap.size w wr ∧ w.heap.size + 2 ≤ wr.heap.size) (fun i _ => l.length - (intOf i).toNat)
    case atStart => exact ⟨0, zs, by omega, rfl, hrow.out, hgs, hps, hown.out, hb0.out, hb1.out, hB, hz⟩
    case round =>
      clear hrow hgs hps hown hb0 hb1 hB hz e0
      obtain ⟨k, qs, hk, rfl, hrow, hgs, hqs, hown, hb0, hb1, hB, hz⟩ := hrel
      have hql : qs.length = l.length := by rw [← hqs.out]; simp
      by_cases hlt : k < l.length
      · have hx := List.getElem?_eq_getElem (show k < qs.length by omega)
        obtain ⟨g, cap', cur, e, hg1, hg2, hat, hgb, hsz, hcap⟩ := OwS.at hrow hx
        rw [hql] at e hcap
        injection e with e1 e2 e3
        subst e1 e3
        have hs : l[k]? = some qs[k].1 := by
          have h1 := congrArg (fun l => l[k]?) hqs.out
          simp only [List.getElem?_map, hx] at h1
          exact h1.symm
        have hgl9 := hgl.out _ (List.mem_of_getElem? hs)
        have hrc := hgs.rd (by omega) qs[k] (List.getElem_mem (by omega))
        obtain ⟨⟨s, u⟩, hsu⟩ : ∃ y, qs[k] = y := ⟨_, rfl⟩
        rw [hsu] at hat hs hgl9 hrc hx
        simp only at hs hgl9 hrc
        clear hsu
        obtain ⟨stp, pl, str, gds, ahd, las⟩ := s
        simp only [stc] at hat hrc hgl9
        obtain ⟨Ac, kc, hcve⟩ := rd_form hrc
        subst hcve
        obtain ⟨c0, c1, c2, c3, c4, c5⟩ := hat.c6
        have e0 := hb0.cell 0
        simp at e0
        have hki : (k : Int) < l.length := by omega
        replace hrow := hide hrow
        replace hgs := hide hgs
        replace hown := hide hown
        replace hb0 := hide hb0
        replace hb1 := hide hb1
        replace hB := hide hB
        replace hs := hide hs
        replace hx := hide hx
        replace hgb := hide hgb
        replace hrc := hide hrc
        replace hql := hide hql
        clear hat
        go_upto_region 5 with (fail)
        generalize hV4 : wr.alloc (.cells #[_, _, _, .slice Ac gds.length kc, _, _] 41) = V4
        have hB4 : Below wr.heap.size wr V4 := by rw [← hV4]; exact (Below.refl _ _).alloc (Nat.le_refl _) _
        have z4 : V4.heap.size = wr.heap.size + 1 := by rw [← hV4]; simp
        have x5 : V4.cell? ⟨wr.heap.size, 3, none⟩ = some (.slice Ac gds.length kc) := by rw [← hV4]; simp
        clear hV4 c0 c1 c2 c3 c4 c5
        have x0 : V4.cell? ⟨w.heap.size, 0, none⟩ = some (.slice (some ⟨g, 0, none⟩) l.length k1) := (hB4.cell (p := ⟨w.heap.size, 0, none⟩) (by show w.heap.size < wr.heap.size; omega)).trans e0
        have hgb4 := hide ((hB4.block g hg2).trans hgb.out)
        have hgs4 : Hid (GsOk V4 w.heap.size qs) := hide (hgs.out.below hB4 (by omega))
        have hrow4 : Hid (OwS V4 (w.heap.size + 2) (.slice (some ⟨g, 0, none⟩) l.length k1) qs) := hide (own_below hrow.out hB4 (Nat.le_refl _))
        have hown4 := hide (hown.out.below hB4 (Nat.le_refl _))
        have hgx := hide (hgs4.out _ (List.mem_of_getElem? hx.out))
        have nb0 : w.heap.size < V4.heap.size := by omega
        have nb1 : wr.heap.size < V4.heap.size := by omega
        have ng0 : w.heap.size ≠ g := by omega
        have ng1 : wr.heap.size ≠ g := by omega
        have hg4 : g < V4.heap.size := by omega
        clear e0
        replace z4 := hide z4
        have gc := hide fun (o : Nat) n (b : Nat) (hb : b < V4.heap.size) (hne : b ≠ g) => grownWi_cell (G := V4.heap.size) (g := g) (k := k * 6 + 3) (W := V4) (x := n) (cs := gds) rfl o hb hne
        have g0 := fun n => (gc.out 0 n _ nb0 ng0).trans x0
        have g1 := fun n => (gc.out 3 n _ nb1 ng1).trans x5
        refine wp_region_cmpsi V4.heap.size g (k * 6 + 3) gds 5 8 rfl hg4 (by kernel_rfl) (by kernel_rfl) ?_
        repeat (refine wpRel_one rfl (fun K hK => ?_); go_simp; refine hK _ _ ?_; clear hK K)
        refine wpRel_eff (R := (SlcVi gds.length, fun _ v w => OwI w V4.heap.size v gds)) rfl (fun K hK => ?_)
        go_simp
        refine ⟨fun n => calls_Wi rfl hg4 (fun w1 hC => clone_ints gds _ w1 (gs_keep hgx.out hrow4.out hC.1 (by omega) hC.2.1) (by omega)), fun v1 hv1 => ?_⟩
        refine hK _ _ ?_
        clear hK K
        obtain ⟨Av, kv, rfl⟩ := hv1
        repeat (refine wpRel_one rfl (fun K hK => ?_); go_simp; refine hK _ _ ?_; clear hK K)
        refine wpRel_eff (R := (fun v => v = undef, fun _ _ w => Storedi V4.heap.size g (k * 6 + 3) V4 gds w)) rfl (fun K hK => ?_)
        go_simp
        refine ⟨fun n ho => ?_, ?_⟩
        · have hC : CWi V4.heap.size g (k * 6 + 3) V4 gds (grownWi V4.heap.size g (k * 6 + 3) V4 gds n) := grownWi_is (Nat.le_refl _)
          obtain ⟨⟨y, hy⟩, hfz⟩ := hC.fld hgb4.out (by omega)
          simp only [hy, hfz, Result.andThen_ok, Bool.false_eq_true, if_false]
          exact ⟨⟨_, (grownWi_of (hC.stored hg4 ho)).symm⟩, ⟨hC, .inr ⟨_, ho, ⟨_, OwI.set (p := ⟨g, k * 6 + 3, none⟩) ho (fun e => by have := OwI.lt ho g e; omega) _, rfl⟩, rfl⟩⟩, hC.set hg4 ho⟩
        refine hK _ _ ?_
        clear hK K
        refine wpRel_nil ?_
        rintro w7 ⟨n7, rfl⟩ hΓ
        have hst : Storedi V4.heap.size g (k * 6 + 3) V4 gds (grownWi V4.heap.size g (k * 6 + 3) V4 gds n7) := hΓ _ (List.mem_cons_self ..)
        have hC : CWi V4.heap.size g (k * 6 + 3) V4 gds (grownWi V4.heap.size g (k * 6 + 3) V4 gds n7) := grownWi_is (Nat.le_refl _)
        clear hΓ g0 g1 x0 x5
        generalize grownWi V4.heap.size g (k * 6 + 3) V4 gds n7 = w7 at *
        obtain ⟨u7, hu7, hg7⟩ := hst
        have hql9 := hql.out
        have hnx := own_next (hql9 ▸ hrow4.out) hgs4.out hx.out (by omega) hC.1 hu7 hg7
        rw [hql9] at hnx
        obtain ⟨hn1, hn2, hn3⟩ := hnx
        have hmap := hide (hn3.trans hqs.out)
        have hb0' : Blk w7 w.heap.size 30 #[.slice (some ⟨g, 0, none⟩) l.length k1, .slice A2 a.length k2, .int .i64 win] := (hb0.out.below hB4 (by omega)).grown hC.1 (fun e => ng0 (Option.some.inj e))
        have hb1' : Blk w7 (w.heap.size + 1) 30 #[.slice none 0 0, .slice none 0 0, .int .i64 0] := (hb1.out.below hB4 (by omega)).grown hC.1 (fun e => by have := Option.some.inj e; omega)
        have hB7 : Below w.heap.size w w7 := (hB.out.trans (hB4.mono (by omega))).trans ⟨hC.1.os, hC.1.tape, hC.1.output, hC.1.size, fun j hj => hC.1.block j (by omega) (fun e => by have := Option.some.inj e; omega)⟩
        have hown7 := hown4.out.kept hC.1 (own_ne hown4.out hrow4.out (by decide))
        have hz7 := hC.2.1
        go_wp2
        exact ⟨⟨k + 1, _, by omega, rfl, hn1, hn2, hmap, hown7, hb0', hb1', hB7, by omega⟩, by simp [intOf]; omega⟩
      · obtain rfl : k = l.length := by omega
        have b0 := hb0.cell 0
        have b1 := hb0.cell 1
        have b2 := hb0.cell 2
        have r0 := hb1.cell 0
        have r1 := hb1.cell 1
        have r2 := hb1.cell 2
        have rf0 := hb1.frozen 0
        have rf1 := hb1.frozen 1
        have rf2 := hb1.frozen 2
        simp at b0 b1 b2 r0 r1 r2
        have hlb := hb1.lt
        replace hb0 := hide hb0
        replace hb1 := hide hb1
        replace hrow := hide hrow
        replace hown := hide hown
        replace hgs := hide hgs
        replace hB := hide hB
        clear hql
        go_wp2
        have hR := auto_stored hb1.out (.slice A1 l.length k1) (.slice A2 a.length k2) (.int .i64 win)
        have hne1 : some (w.heap.size + 1) ≠ (Value.slice A1 l.length k1).ownBlock := fun e => by have := (World.ownsRow.lt hrow.out _ e.symm).1; omega
        have hne2 : some (w.heap.size + 1) ≠ (Value.slice A2 a.length k2).ownBlock := fun e => by have := (OwI.lt hown.out _ e.symm).1; omega
        have hg7 := grownBy_set (grownBy_set (grownBy_set (World.grownBy.refl wr (some (w.heap.size + 1))) 0 (.slice A1 l.length k1)) 1 (.slice A2 a.length k2)) 2 (.int .i64 win)
        generalize ((wr.setCell _ _).setCell _ _).setCell _ _ = V7 at *
        have hrow7 := World.ownsRow.kept hrow.out hg7 (.inr fun e => hne1 e.symm)
        have hown7 := OwI.kept hown.out hg7 (.inr fun e => hne2 e.symm)
        have hbel : Below w.heap.size wr V7 := grown_below' hg7 (by omega) (by omega)
        have hgs7 : GsOk V7 w.heap.size qs := fun x hx => (hgs.out x hx).imp (fun h => RdI.below h hbel (Nat.le_refl _)) (fun h => OwI.kept h hg7 (.inr fun e => by have := (OwI.lt h _ e).1; omega))
        have q0 := hR.cell 0
        have q1 := hR.cell 1
        have q2 := hR.cell 2
        simp at q0 q1 q2
        have hrd7 := rdt_of_row hrow7 (hgs7.rd (by have := hbel.size; omega))
        rw [hqs.out] at hrd7
        exact bodyPost_ret (v := atV (.slice A1 l.length k1) (.slice A2 a.length k2) win) (by simp [results, Tryz.f21, go_sem, q0, q1, q2]) rfl ⟨⟨_, _, rfl, hrd7, hown7.rd⟩, hB.out.trans hbel⟩
end Go.Proofs.YtmmbblfmhcegcaaGreat

namespace Go.Proofs.YtmmbblfmhcegcaaGreat
open Go.RowKit
attribute [local go_sem] grown_cell grown_frozen

/-- The numbers of those of the first k states that stand behind one. -/
def nextTo (l : List St) (at_ : Int) (k : Nat) : List Int := ((List.range k).filter fun (i : Nat) => decide (l[i]?.map (·.ahead) = some at_)).map fun (i : Nat) => (i : Int)
def nextF (l : List St) (at_ : Int) : List Int := if autoR l then nextTo l at_ l.length else []
theorem nextTo_succ {l : List St} {k : Nat} {s : St} (hs : l[k]? = some s) (at_ : Int) : nextTo l at_ (k + 1) = nextTo l at_ k ++ (if s.ahead = at_ then [(k : Int)] else []) := by
  simp only [nextTo, List.range_succ, List.filter_append, List.map_append, List.filter_cons, List.filter_nil, hs, Option.map_some]
  by_cases h : s.ahead = at_
  · simp [h]
  · simp [h]
theorem nextTo_len (l : List St) (at_ : Int) (k : Nat) : (nextTo l at_ k).length ≤ k := by
  have := List.length_filter_le (fun (i : Nat) => decide (l[i]?.map (·.ahead) = some at_)) (List.range k)
  simp only [nextTo, List.length_map, List.length_range] at this ⊢
  exact this

set_option maxRecDepth 100000 in
set_option maxHeartbeats 4000000 in
theorem next_any (l : List St) (sv av : Value) (win at_ : Int) (w : World) (h : RdT w w.heap.size sv l) (ha : ∃ A n c, av = .slice A n c) (hsm : Small l) (hlen : l.length ≤ 900000) :
    Calls Tryz.prog 19 #[atV sv av win, .int .i64 at_] w fun e w' => (∃ v, e = .returned v ∧ OwI w' w.heap.size v (nextF l at_)) ∧ Below w.heap.size w w' := by
  have hr := hide fun w1 (hb : Below w.heap.size w w1) => nright_any l sv av win w1 (h.below hb hb.size) ha hsm
  obtain ⟨Av, nv, cv, rfl⟩ := ha
  obtain ⟨A, cap, b, off, rfl, h2, h3, h4, h5⟩ := h
  have hX := hide ((Below.refl w.heap.size w).alloc (Nat.le_refl _) (.cells #[.slice A l.length cap, .slice Av nv cv, .int .i64 win] 30))
  cases hm : autoR l with
  | false =>
    rw [hm] at hr
    clear h4 h5
    go_enter Tryz.func19, Tryz.ntmps19
    go_wp2_with (go_at_call 18; (with_reducible refine (stayf (G := w.heap.size + 1) (hr.out _ hX.out) (by simp)).mono ?_); rintro e w1 ⟨rfl, hc1, hf1, hz1, hB1⟩)
    go_ret
    exact ⟨⟨_, rfl, by simp only [nextF, hm]; exact OwI.nil _ _⟩, hX.out.trans (hB1.out.mono (by omega))⟩
  | true =>
    rw [hm] at hr
    go_enter Tryz.func19, Tryz.ntmps19
    go_wp2_with (go_at_call 18; (with_reducible refine (stayf (G := w.heap.size + 1) (hr.out _ hX.out) (by simp)).mono ?_); rintro e w1 ⟨rfl, hc1, hf1, hz1, hB1⟩)
    have hB1w := hide (hX.out.trans (hB1.out.mono (by omega)))
    have hz : w.heap.size + 1 ≤ w1.heap.size := hz1
    clear hr hc1 hf1 hz1 hB1 hX
    go_loopw [4, 13] (fun r i wr => ∃ k : Nat, k ≤ l.length ∧ i = .int .i64 k ∧ OwI wr w1.heap.size r (nextTo l at_ k) ∧ Below w1.heap.size w1 wr) (fun _ i _ => l.length - (intOf i).toNat)
    case atStart => exact ⟨0, by omega, rfl, OwI.nil _ _, Below.refl _ _⟩
    case round =>
      obtain ⟨k, hk, rfl, hown, hB⟩ := hrel
      have hzr := hB.size
      by_cases hlt : k < l.length
      · obtain ⟨rfl, hb⟩ := h4 (by omega)
        obtain ⟨s, hs⟩ : ∃ s, l[k]? = some s := ⟨_, List.getElem?_eq_getElem hlt⟩
        obtain ⟨vs, ⟨gv, rfl, hgv⟩, hat⟩ := h5 k s hs
        obtain ⟨Ag, cg, hge⟩ : ∃ A c, gv = .slice A s.guards.length c := by
          obtain ⟨A, c, b, off, e, -⟩ := hgv
          exact ⟨A, c, e⟩
        subst hge
        obtain ⟨c0, c1, c2, c3, c4, c5⟩ := ((hat.below hB1w.out hb).below hB (by omega)).c6
        have hsn := hide (nextTo_succ hs at_)
        have hpl := nextTo_len l at_ k
        clear hat h5 hgv
        generalize nextTo l at_ k = L at *
        obtain ⟨st, pl, sr, gs, ah, la⟩ := s
        simp only at c0 c1 c2 c3 c4 c5 hsn
        have hki : (k : Int) < l.length := by omega
        by_cases ht : ah = at_
        · subst ht
          go_wp2_with (at_builtin; refine app1 (.tmp 22) (.tmp 24) rfl rfl rfl rfl ((hown.alloc _).alloc _) (by simp; rfl) (by omega) (by simp; omega) ?_; intro v1 w2 hown1 hg1)
          refine ⟨⟨k + 1, by omega, rfl, by rw [hsn.out]; simpa using hown1, ?_⟩, by simp [intOf]; omega⟩
          exact ((hB.alloc hzr _).alloc (by simp; omega) _).grown hg1 (by simp; omega) (fun j e => (hown.lt j e).1)
        · have z : (ah == at_) = false := by simpa using ht
          have hsn2 := hide (show nextTo l at_ (k + 1) = L by rw [hsn.out]; simp [ht])
          clear hsn
          replace ht := hide ht
          go_wp2
          exact ⟨⟨k + 1, by omega, rfl, by rw [hsn2.out]; exact hown.alloc _, hB.alloc hzr _⟩, by simp [intOf]; omega⟩
      · obtain rfl : k = l.length := by omega
        have hnx : Hid (nextF l at_ = nextTo l at_ l.length) := hide (by simp [nextF, hm])
        clear h4 h5
        go_wp2
        go_ret
        exact ⟨⟨_, rfl, by rw [hnx.out]; exact hown.mono (by omega)⟩, hB1w.out.trans (hB.mono (by omega))⟩
end Go.Proofs.YtmmbblfmhcegcaaGreat
