/- Several texts of one proof: A pattern's rows: the walk of unroll.Rows. | The whole rows: the walk of nfa.Rows. | The same rows? the walk of the reference's Rowed. -/
import Derived.Test.YtmmbblfmhcegcaaGreatM09
import Derived.Test.YtmmbblfmhcegcaaGreatM10
import Derived.Test.YtmmbblfmhcegcaaGreatM14
import Derived.Test.YtmmbblfmhcegcaaGreatM05
import Derived.Test.YtmmbblfmhcegcaaGreatM03

namespace Go.Proofs.YtmmbblfmhcegcaaGreat
open Go.RowKit Go.Shelf
attribute [local go_sem] Oper.semAt_some relVal relEff dT valF

theorem clone_ints (l : List Int) (v : Value) (w : World) (h : RdI w w.heap.size v l) (hl : l.length ≤ 900000) :
    Calls Tryz.prog 36 #[v] w fun e w' => (∃ v', e = .returned v' ∧ OwI w' w.heap.size v' l) ∧ Below w.heap.size w w' := by
  obtain ⟨A, cap, b, off, rfl, h2, h3, h4, h5⟩ := h
  rcases Nat.eq_zero_or_pos l.length with h0 | h0
  · have hl0 : l = [] := List.eq_nil_of_length_eq_zero h0
    subst hl0
    cases A with
    | none =>
      refine (Tryz.slices_Clone_int_nil 0 cap w).mono ?_
      rintro e w' ⟨rfl, rfl⟩
      exact ⟨⟨_, rfl, OwI.nil _ _⟩, Below.refl _ _⟩
    | some ad =>
      refine (Tryz.slices_Clone_int_zero ad cap w).mono ?_
      rintro e w' ⟨v', rfl, ho, -, hB⟩
      exact ⟨⟨v', rfl, ho⟩, hB⟩
  · obtain ⟨rfl, hb⟩ := h4 h0
    refine (Tryz.slices_Clone_int b off l.length cap l w (Nat.le_refl _) (by omega) ?_).mono ?_
    · intro j hj
      obtain ⟨cs, rfl, hat⟩ := h5 j l[j] (List.getElem?_eq_getElem hj)
      have := hat 0 _ rfl
      simpa [List.getD_eq_getElem?_getD, List.getElem?_eq_getElem hj] using this
    · rintro e w' ⟨v', rfl, ho, -, hB⟩
      rw [List.take_length] at ho
      exact ⟨⟨v', rfl, ho⟩, hB⟩

theorem row_info : (Tryz.prog.info? 28).map (fun i => (i.zero, i.size, i.bytes)) = some (some (.slice none 0 0), 1, 24) := by kernel_rfl
theorem Ovr.row_last {w w' : World} {e : TypeId} {sz n : Nat} {xs news news' : List Value} (h : Ovr w w' e sz n xs news) (hx : xs.length = n * sz) (hl : news.length = sz) (hl' : news'.length = sz) {G : Nat} {v : Value} (hv : w.ownsRow G e sz v (n + 1) (xs ++ news')) :
    w'.ownsRow G e sz v (n + 1) (xs ++ news') ∨ w'.ownsRow G e sz v (n + 1) (xs ++ news) := by
  rcases hv.2 with h1 | ⟨g, cap, cur, rfl, hbg, hg, hnc, hcm, hcs, htake⟩
  · exact absurd h1.2 (by omega)
  · rcases h g _ hg with h1 | ⟨cur', cap', e1, e2, e3, e4⟩
    · exact .inl ⟨hv.1, .inr ⟨g, cap, cur, rfl, hbg, h1, hnc, hcm, hcs, htake⟩⟩
    · cases e1
      have hlen : (xs ++ news).length = (n + 1) * sz := by rw [List.length_append, hx, hl, Nat.add_mul, Nat.one_mul]
      refine .inr ⟨hlen, .inr ⟨g, cap, _, rfl, hbg, e4, hnc, hcm, ?_, ?_⟩⟩
      · have hle : n * sz + news.length ≤ cur.size := by
          rw [hl, e2, ← Nat.succ_mul]
          exact Nat.mul_le_mul_right _ e3
        simp only [List.size_toArray, List.length_append, List.length_drop, Array.length_toList, hx]
        omega
      · rw [← hlen]
        exact List.take_left

/-- The rows so far, in the caller's box. -/
structure AllI (Ball G : Nat) (q : List (List Int)) (v : Value) (vs : List Value) (X : World) : Prop where
  box : Blk X Ball 34 #[v]
  row : X.ownsRow G 28 1 v q.length vs
  els : ∀ (j : Nat) (r : Value) (l : List Int), vs[j]? = some r → q[j]? = some l → OwI X G r l
theorem AllI.below {Ball G : Nat} {q : List (List Int)} {v : Value} {vs : List Value} {X Y : World} (h : AllI Ball G q v vs X) (hb : Below X.heap.size X Y) : AllI Ball G q v vs Y :=
  ⟨h.box.below hb h.box.lt, own_below h.row hb (Nat.le_refl _), fun j r l h1 h2 => (h.els j r l h1 h2).below hb (Nat.le_refl _)⟩
/-- While a row is laid behind the others: all but the store. -/
def allC (n₀ Ball G B : Nat) (q : List (List Int)) (v : Value) (vs : List Value) (X Y : World) : Prop := KpB n₀ Ball X Y ∧ KeepsFrom B X Y ∧ AllI Ball G q v vs Y ∧ G ≤ Y.heap.size
theorem allC_below {n₀ Ball G B : Nat} {q : List (List Int)} {v : Value} {vs : List Value} {X : World} (hn : n₀ ≤ X.heap.size) : ∀ w w', allC n₀ Ball G B q v vs X w → Below w.heap.size w w' → allC n₀ Ball G B q v vs X w' := by
  rintro w w' ⟨h1, h2, h3, h4⟩ hb
  have hk := KpB.of_below (n₀ := n₀) h3.box.lt (Nat.le_trans hn h1.size) hb
  exact ⟨h1.trans hk, h2.trans ⟨hb.size, fun k o _ hk _ => (hb.block k (Array.getElem?_eq_some_iff.1 hk).1).trans hk⟩, h3.below hb, Nat.le_trans h4 hb.size⟩
/-- One row in a block of its own. -/
def oneF (G : Nat) (l : List Int) : Fact := (fun v => ∃ g, v = .slice (some ⟨g, 0, none⟩) 1 1, fun v x => ∃ g r, v = .slice (some ⟨g, 0, none⟩) 1 1 ∧ G ≤ g ∧ Blk x g 28 #[r] ∧ OwI x G r l)
def appF (G n X : Nat) (v₀ : Value) (vs : List Value) (l : List Int) : Fact := (fun v => ∃ A c, v = .slice A (n + 1) c, fun v x => (∃ r, x.ownsRow G 28 1 v (n + 1) (vs ++ [r]) ∧ OwI x G r l) ∧ ∀ k, v.ownBlock = some k → v₀.ownBlock = some k ∨ X ≤ k)
theorem oneF_ok (G : Nat) (l : List Int) : FactOk (oneF G l) := ⟨⟨_, 0, rfl⟩, fun _ _ _ ⟨g, r, h1, h2, h3, h4⟩ hb => ⟨g, r, h1, h2, h3.below hb h3.lt, h4.below hb (Nat.le_refl _)⟩⟩
theorem appF_ok (G n X : Nat) (v₀ : Value) (vs : List Value) (l : List Int) : FactOk (appF G n X v₀ vs l) := ⟨⟨_, none, 0, rfl⟩, fun _ _ _ ⟨⟨r, h1, h2⟩, h3⟩ hb => ⟨⟨r, own_below h1 hb (Nat.le_refl _), h2.below hb (Nat.le_refl _)⟩, h3⟩⟩
def allL (G n X : Nat) (v₀ : Value) (vs : List Value) (l : List Int) : List (Nat × Fact) := [(2, catF G l), (3, oneF G l), (4, appF G n X v₀ vs l)]
theorem allL_ok (G n X : Nat) (v₀ : Value) (vs : List Value) (l : List Int) : ∀ q ∈ allL G n X v₀ vs l, FactOk q.2 := by
  intro q hq
  simp only [allL, List.mem_cons, List.not_mem_nil, or_false] at hq
  rcases hq with rfl | rfl | rfl <;> first | exact catF_ok _ _ | exact oneF_ok _ _ | exact appF_ok _ _ _ _ _ _
theorem allL_ovr {G n X : Nat} {v₀ : Value} {vs : List Value} {l : List Int} {r : Value} {w w' : World} (h : Ovr w w' 28 1 n vs [r]) (hx : vs.length = n * 1) (hr : OwI w G r l) : KeepT (allL G n X v₀ vs l) w w' := by
  have hr' : OwI w' G r l := h.row_other hr (by decide)
  intro q hq v hv
  simp only [allL, List.mem_cons, List.not_mem_nil, or_false] at hq
  rcases hq with rfl | rfl | rfl
  · exact h.row_other hv (by decide)
  · obtain ⟨g, s, h1, h2, h3, h4⟩ := hv
    rcases h g _ h3 with e | ⟨cur, cap, e1, e2, e3, e4⟩
    · exact ⟨g, s, h1, h2, e, h.row_other h4 (by decide)⟩
    · cases e1
      have hc : cap = 1 := by simpa using e2.symm
      have hn : n = 0 := by omega
      subst hn
      have hv0 : vs = [] := List.eq_nil_of_length_eq_zero (by simpa using hx)
      subst hv0
      refine ⟨g, r, h1, h2, ?_, hr'⟩
      unfold Blk
      rw [e4]
      simp
  · obtain ⟨⟨s, h1, h2⟩, h3⟩ := hv
    rcases h.row_last hx rfl (news' := [s]) rfl h1 with e | e
    · exact ⟨⟨s, e, h.row_other h2 (by decide)⟩, h3⟩
    · exact ⟨⟨r, e, hr'⟩, h3⟩

theorem own_slice {w : World} {G : Nat} {e : TypeId} {sz n k : Nat} {v : Value} {xs : List Value} (h : w.ownsRow G e sz v n xs) (hk : v.ownBlock = some k) : ∃ c, v = .slice (some ⟨k, 0, none⟩) n c := by
  rcases h.2 with ⟨rfl, -⟩ | ⟨g, cap, cur, rfl, -⟩
  · cases hk
  · obtain rfl : g = k := by simpa [Value.ownBlock] using hk
    exact ⟨cap, rfl⟩
theorem allC_app {n₀ Ball G B : Nat} {q : List (List Int)} {v r : Value} {vs : List Value} {X Y Y' : World} (hC : allC n₀ Ball G B q v vs X Y) (hO : Ovr Y Y' 28 1 q.length vs [r]) (hg : Y.grownBy Y' v.ownBlock) (hb : Below G Y Y') (hn : n₀ ≤ G) : allC n₀ Ball G B q v vs X Y' := by
  obtain ⟨h1, h2, h3, h4⟩ := hC
  have hbox := hO.blk h3.box (by decide)
  have hc0 : Y'.cell? ⟨Ball, 0, none⟩ = Y.cell? ⟨Ball, 0, none⟩ := by rw [hbox.cell 0, h3.box.cell 0]
  have hvY : Y.cell? ⟨Ball, 0, none⟩ = some v := by rw [h3.box.cell 0]; rfl
  have hk : KpB n₀ Ball Y Y' := by
    refine ⟨hb.mono hn, hg.size, fun k cs t f hk hc => hg.block k (Array.getElem?_eq_some_iff.1 hk).1 (fun e => ?_), fun k hk => .inl ((consB_same hc0 k).1 hk), fun ho k hk => Nat.lt_of_lt_of_le (ho k ((consB_same hc0 k).1 hk)) hg.size, fun _ => ⟨_, _, _, hbox⟩⟩
    obtain ⟨c, e1⟩ := own_slice h3.row e.symm
    exact hc (.inr ⟨_, c, by rw [hvY, e1]⟩)
  refine ⟨h1.trans hk, h2.trans ⟨hg.size, fun k o _ hk hc => (hg.block k (Array.getElem?_eq_some_iff.1 hk).1 (fun e => ?_)).trans hk⟩, ⟨hbox, hO.row (by rw [h3.row.1]) rfl h3.row ⟨[r], rfl⟩, fun j s l e1 e2 => hO.row_other (h3.els j s l e1 e2) (by decide)⟩, Nat.le_trans h4 hg.size⟩
  rcases h3.row.2 with ⟨rfl, -⟩ | ⟨g, cap, cur, rfl, -, hgb, -⟩
  · cases e
  · obtain rfl : k = g := by simpa [Value.ownBlock] using e
    rw [hk] at hgb
    cases hgb
    cases hc
theorem all_store {n₀ Ball G B : Nat} {q : List (List Int)} {l : List Int} {v v' : Value} {vs : List Value} {X Y : World} (hX : AllI Ball G q v vs X) (hC : allC n₀ Ball G B q v vs X Y) (hn : n₀ ≤ Ball) (hf : (appF G q.length X.heap.size v vs l).2 v' Y) (hlv : vs.length = q.length) :
    KpB n₀ Ball X (Y.setCell ⟨Ball, 0, none⟩ v') ∧ KeepsFrom B X (Y.setCell ⟨Ball, 0, none⟩ v') ∧ ∃ r, AllI Ball G (q ++ [l]) v' (vs ++ [r]) (Y.setCell ⟨Ball, 0, none⟩ v') := by
  obtain ⟨h1, h2, h3, h4⟩ := hC
  obtain ⟨⟨r, f1, f2⟩, f3⟩ := hf
  have hbox : Blk (Y.setCell ⟨Ball, 0, none⟩ v') Ball 34 #[v'] := by simpa using h3.box.set_ 0 v'
  have hvX : X.cell? ⟨Ball, 0, none⟩ = some v := by rw [hX.box.cell 0]; rfl
  have hvY : (Y.setCell ⟨Ball, 0, none⟩ v').cell? ⟨Ball, 0, none⟩ = some v' := by rw [hbox.cell 0]; rfl
  have hsz : (Y.setCell ⟨Ball, 0, none⟩ v').heap.size = Y.heap.size := by simp [World.setCell]
  refine ⟨⟨h1.below.trans ((Below.refl _ _).setCell (p := ⟨Ball, 0, none⟩) hn _), by rw [hsz]; exact h1.size, fun k cs t f hk hc => ?_, fun k hk => ?_, fun _ k hk => ?_, fun _ => ⟨_, _, _, hbox⟩⟩, h2.trans (keepsFrom_set _ _ _ _), r, hbox, ?_, fun j s m e1 e2 => ?_⟩
  · exact (Below.heap_setCell _ _ _ _ (by show k ≠ Ball; rintro rfl; exact hc (.inl rfl))).trans (h1.cells k cs t f hk hc)
  · rcases hk with rfl | ⟨n, c, e⟩
    · exact .inl (.inl rfl)
    · rw [hvY] at e
      have e := Option.some.inj e
      subst e
      rcases f3 k rfl with e2 | e2
      · obtain ⟨c2, e3⟩ := own_slice hX.row e2
        exact .inl (.inr ⟨_, c2, by rw [hvX, e3]⟩)
      · exact .inr e2
  · rw [hsz]
    rcases hk with rfl | ⟨n, c, e⟩
    · exact h3.box.lt
    · rw [hvY] at e
      have e := Option.some.inj e
      subst e
      exact (World.ownsRow.lt f1 k rfl).2
  · have := own_set f1 (p := ⟨Ball, 0, none⟩) (h3.box.ne_own f1 (by decide)) v'
    simpa using this
  · have hOw : OwI Y G s m := by
      by_cases hj : j < vs.length
      · rw [List.getElem?_append_left hj] at e1
        rw [List.getElem?_append_left (by omega)] at e2
        exact h3.els j s m e1 e2
      · have hj2 := (List.getElem?_eq_some_iff.1 e1).1
        simp at hj2
        obtain rfl : j = vs.length := by omega
        rw [List.getElem?_append_right (Nat.le_refl _)] at e1
        rw [hlv, List.getElem?_append_right (Nat.le_refl _)] at e2
        simp at e1 e2
        subst e1 e2
        exact f2
    exact own_set hOw (p := ⟨Ball, 0, none⟩) (h3.box.ne_own hOw (by decide)) v'

def rowC (w : World) (B : Nat) (l : List Int) (cs : List Value) : Prop := ∃ v, cs = [v] ∧ RdI w B v l
abbrev RdLL := RdL 1 rowC
theorem RdLL.below {w w' : World} {B B' : Nat} {v : Value} {xs : List (List Int)} (h : RdLL w B v xs) (hb : Below B w w') (hB : B ≤ B') : RdLL w' B' v xs := RdL.below' h hb hB fun _ _ ⟨v, e, h⟩ => ⟨v, e, h.below hb hB⟩
theorem AllI.grown {Ball G n₀ : Nat} {q : List (List Int)} {v : Value} {vs : List Value} {X Y : World} {row : Option Nat} (h : AllI Ball G q v vs X) (hg : X.grownBy Y row) (hr : ∀ r, row = some r → n₀ ≤ r ∧ ∃ o : Obj, X.heap[r]? = some o ∧ o.isCells = false) : AllI Ball G q v vs Y := by
  have keep : ∀ (k : Nat) (cs : Array Value) (t : TypeId) (f : Nat × Nat), X.heap[k]? = some (Obj.cells cs t f) → Y.heap[k]? = some (Obj.cells cs t f) := fun k cs t f hk => (hg.block k (Array.getElem?_eq_some_iff.1 hk).1 (fun e => by
    obtain ⟨-, o, ho, hc⟩ := hr k e.symm
    rw [hk] at ho
    cases ho
    cases hc)).trans hk
  have own : ∀ {e : TypeId} {sz n : Nat} {u : Value} {xs : List Value}, X.ownsRow G e sz u n xs → Y.ownsRow G e sz u n xs := fun ho => ⟨ho.1, ho.2.elim .inl fun ⟨g, cap, cur, e1, e2, e3, e4⟩ => .inr ⟨g, cap, cur, e1, e2, keep _ _ _ _ e3, e4⟩⟩
  exact ⟨keep _ _ _ _ h.box, own h.row, fun j r l e1 e2 => own (h.els j r l e1 e2)⟩
theorem AllI.rd {Ball G : Nat} {q : List (List Int)} {v : Value} {vs : List Value} {X : World} (h : AllI Ball G q v vs X) : RdLL X X.heap.size v q := by
  have hc := fun g => World.ownsRow.cells (g := g) h.row
  have hl : vs.length = q.length := by simpa using h.row.1
  rcases h.row.2 with ⟨rfl, hq⟩ | ⟨g, cap, cur, rfl, -, hg, hcap, hmax, -, -⟩
  · exact ⟨none, 0, 0, 0, by rw [hq], by omega, by omega, fun h0 => by omega, fun i x hx => by have := (List.getElem?_eq_some_iff.1 hx).1; omega⟩
  · refine ⟨some ⟨g, 0, none⟩, cap, g, 0, rfl, hcap, by unfold maxLen at hmax; omega, fun _ => ⟨rfl, (Array.getElem?_eq_some_iff.1 hg).1⟩, fun i x hx => ?_⟩
    have hi := (List.getElem?_eq_some_iff.1 hx).1
    have hv : vs[i]? = some vs[i] := List.getElem?_eq_getElem (by omega)
    refine ⟨[vs[i]], ⟨_, rfl, (h.els i _ _ hv hx).rd⟩, fun j u hu => ?_⟩
    match j, hu with
    | 0, hu =>
      have := hc g rfl i _ hv
      rw [Addr.add_lit] at this
      simp at hu
      subst hu
      simpa using this
end Go.Proofs.YtmmbblfmhcegcaaGreat

namespace Go.Proofs.YtmmbblfmhcegcaaGreat
open Go.RowKit Go.Shelf
attribute [local go_sem] grown_cell grown_frozen

/-- A list of rows of a call's own. -/
structure OwLL (w : World) (G : Nat) (v : Value) (q : List (List Int)) (vs : List Value) : Prop where
  row : w.ownsRow G 28 1 v q.length vs
  els : ∀ (j : Nat) (r : Value) (l : List Int), vs[j]? = some r → q[j]? = some l → OwI w G r l
section
variable {w w' : World} {G : Nat} {v : Value} {q : List (List Int)} {vs : List Value}
theorem OwLL.nil (w : World) (G : Nat) : OwLL w G (.slice none 0 0) [] [] := ⟨World.ownsRow_nil _ _ _ _, fun j r l h => by simp at h⟩
theorem OwLL.below (h : OwLL w G v q vs) (hb : Below w.heap.size w w') : OwLL w' G v q vs := ⟨own_below h.row hb (Nat.le_refl _), fun j r l h1 h2 => (h.els j r l h1 h2).below hb (Nat.le_refl _)⟩
theorem OwLL.alloc (h : OwLL w G v q vs) (o : Obj) : OwLL (w.alloc o) G v q vs := h.below ((Below.refl _ _).alloc (Nat.le_refl _) _)
theorem OwLL.len (h : OwLL w G v q vs) : vs.length = q.length := by simpa using h.row.1
theorem OwLL.rd (h : OwLL w G v q vs) : RdLL w w.heap.size v q := by
  have hc := fun g => World.ownsRow.cells (g := g) h.row
  have hl := h.len
  rcases h.row.2 with ⟨rfl, hq⟩ | ⟨g, cap, cur, rfl, -, hg, hcap, hmax, -, -⟩
  · exact ⟨none, 0, 0, 0, by rw [hq], by omega, by omega, fun h0 => by omega, fun i x hx => by have := (List.getElem?_eq_some_iff.1 hx).1; omega⟩
  · refine ⟨some ⟨g, 0, none⟩, cap, g, 0, rfl, hcap, by unfold maxLen at hmax; omega, fun _ => ⟨rfl, (Array.getElem?_eq_some_iff.1 hg).1⟩, fun i x hx => ?_⟩
    have hi := (List.getElem?_eq_some_iff.1 hx).1
    have hv : vs[i]? = some vs[i] := List.getElem?_eq_getElem (by omega)
    refine ⟨[vs[i]], ⟨_, rfl, (h.els i _ _ hv hx).rd⟩, fun j u hu => ?_⟩
    match j, hu with
    | 0, hu =>
      have := hc g rfl i _ hv
      rw [Addr.add_lit] at this
      simp at hu
      subst hu
      simpa using this
end
section
variable {ops : Array Oper} {rest : List Oper} {o : Oper} {a : Act} {Q : Exit → Act → World → Prop} {w : World} {base g : Nat} {v r : Value} {q : List (List Int)} {vs : List Value} {l : List Int}
theorem app_ll (s y : Operand) (hgd : o.guard = none) (ho : o.op = .call { callee := .builtin .append, args := #[s, y], argTypes := #[34, 34] })
    (hs : a.eval s = v) (hy : a.eval y = .slice (some ⟨g, 0, none⟩) 1 1) (hown : OwLL w base v q vs) (hr : OwI w base r l) (hb : Blk w g 28 #[r]) (hl : q.length < 900000) (hbase : base ≤ w.heap.size)
    (h : ∀ v' w', OwLL w' base v' (q ++ [l]) (vs ++ [r]) → w.grownBy w' v.ownBlock → wpList Tryz.prog ops Q rest (a.put o.dst v') w') : wpList Tryz.prog ops Q (o :: rest) a w := by
  obtain ⟨i0, hi, hz0, hz1, hz2⟩ := info_parts row_info
  obtain ⟨Ar, cr, hre⟩ := hr.form
  refine wpList_append_own_at w hgd s y 34 ho base 28 i0 _ 1 24 Tryz.underlying34 hi hz0 hz1 hz2 rfl (by decide) v q.length _ hs hown.row ⟨g, 0, none⟩ 1 1 [r] hy rfl
    (blk_news hb) (by intro u hu; rw [List.mem_singleton.1 hu, hre]; rfl) (by unfold maxLen; omega) (by omega) hbase ?_
  intro v' w' hw hg _ _
  refine h v' w' ⟨by simpa using hw, fun j r' l' h1 h2 => ?_⟩ hg
  have hold : OwI w base r' l' := by
    by_cases hj : j < q.length
    · rw [List.getElem?_append_left (by rw [hown.len]; exact hj)] at h1
      rw [List.getElem?_append_left hj] at h2
      exact hown.els j r' l' h1 h2
    · rw [List.getElem?_append_right (by rw [hown.len]; omega)] at h1
      rw [List.getElem?_append_right (by omega)] at h2
      have h3 := (List.getElem?_eq_some_iff.1 h1).1
      rw [hown.len] at h1
      have h4 : j - q.length = 0 := by
        have := (List.getElem?_eq_some_iff.1 h2).1
        simp at this
        omega
      rw [h4] at h1 h2
      simp at h1 h2
      subst h1 h2
      exact hr
  exact hold.kept hg (own_ne hold hown.row (by decide))
end

/-- The rows of those of the first k states that are last ones. -/
def rowsA (l : List St) (k : Nat) : List (List Int) := ((List.range k).filter fun (i : Nat) => decide (l[i]?.map (·.last) = some true)).map fun (i : Nat) => wayL l i
def nrowsF (l : List St) : List (List Int) := if autoR l then rowsA l l.length else []
theorem rowsA_succ {l : List St} {k : Nat} {s : St} (hs : l[k]? = some s) : rowsA l (k + 1) = rowsA l k ++ (if s.last then [wayL l k] else []) := by
  simp only [rowsA, List.range_succ, List.filter_append, List.map_append, List.filter_cons, List.filter_nil, hs, Option.map_some]
  cases s.last <;> simp
theorem rowsA_len (l : List St) (k : Nat) : (rowsA l k).length ≤ k := by
  have := List.length_filter_le (fun (i : Nat) => decide (l[i]?.map (·.last) = some true)) (List.range k)
  simp only [rowsA, List.length_map, List.length_range] at this ⊢
  exact this

set_option maxRecDepth 100000 in
set_option maxHeartbeats 4000000 in
theorem nrows_any (l : List St) (sv av : Value) (win : Int) (w : World) (h : RdT w w.heap.size sv l) (ha : ∃ A n c, av = .slice A n c) (hsm : Small l) (hlen : l.length ≤ 800000) :
    Calls Tryz.prog 9 #[atV sv av win] w fun e w' => (∃ v vs, e = .returned v ∧ OwLL w' w.heap.size v (nrowsF l) vs) ∧ Below w.heap.size w w' := by
  have hr := hide fun w1 (hb : Below w.heap.size w w1) => nright_any l sv av win w1 (h.below hb hb.size) ha hsm
  have hw := hide fun (h1 : autoR l = true) (k : Nat) (h3 : k < l.length) w1 (hb : Below w.heap.size w w1) => way_any l sv av win k w1 (h.below hb hb.size) ha h1 (by omega) (by omega) (by omega)
  obtain ⟨Av, nv, cv, rfl⟩ := ha
  obtain ⟨A, cap, b, off, rfl, h2, h3, h4, h5⟩ := h
  have hX := hide ((Below.refl w.heap.size w).alloc (Nat.le_refl _) (.cells #[.slice A l.length cap, .slice Av nv cv, .int .i64 win] 30))
  cases hm : autoR l with
  | false =>
    rw [show nrowsF l = [] by simp [nrowsF, hm]]
    rw [hm] at hr
    clear hw h4 h5
    go_enter Tryz.func9, Tryz.ntmps9
    go_wp2_with (go_at_call 18; (with_reducible refine (stayf (G := w.heap.size + 1) (hr.out _ hX.out) (by simp)).mono ?_); rintro e w1 ⟨rfl, hc1, hf1, hz1, hB1⟩)
    go_ret
    exact ⟨⟨_, [], rfl, OwLL.nil _ _⟩, hX.out.trans (hB1.out.mono (by omega))⟩
  | true =>
    rw [show nrowsF l = rowsA l l.length by simp [nrowsF, hm]]
    rw [hm] at hr
    replace hw := hide (hw.out hm)
    go_enter Tryz.func9, Tryz.ntmps9
    go_wp2_with (go_at_call 18; (with_reducible refine (stayf (G := w.heap.size + 1) (hr.out _ hX.out) (by simp)).mono ?_); rintro e w1 ⟨rfl, hc1, hf1, hz1, hB1⟩)
    have hB1w := hide (hX.out.trans (hB1.out.mono (by omega)))
    have hz : w.heap.size + 1 ≤ w1.heap.size := hz1
    have hx1 := hide ((Blk.new w 30 #[.slice A l.length cap, .slice Av nv cv, .int .i64 win]).below hB1.out (Nat.lt_succ_self _))
    clear hr hc1 hf1 hz1 hB1 hX
    go_loopw [2, 11] (fun r i wr => ∃ (k : Nat) (vs : List Value), k ≤ l.length ∧ i = .int .i64 k ∧ OwLL wr w1.heap.size r (rowsA l k) vs ∧ Below w1.heap.size w1 wr) (fun _ i _ => l.length - (intOf i).toNat)
    case atStart => exact ⟨0, [], by omega, rfl, OwLL.nil _ _, Below.refl _ _⟩
    case round =>
      obtain ⟨k, vs, hk, rfl, hown, hB⟩ := hrel
      have hzr := hB.size
      by_cases hlt : k < l.length
      · obtain ⟨rfl, hb⟩ := h4 (by omega)
        obtain ⟨s, hs⟩ : ∃ s, l[k]? = some s := ⟨_, List.getElem?_eq_getElem hlt⟩
        obtain ⟨us, ⟨gv, rfl, hgv⟩, hat⟩ := h5 k s hs
        obtain ⟨Ag, cg, hge⟩ : ∃ A c, gv = .slice A s.guards.length c := by
          obtain ⟨A, c, b, off, e, -⟩ := hgv
          exact ⟨A, c, e⟩
        subst hge
        have x0 := (hx1.out.below hB hz).cell 0
        have x1 := (hx1.out.below hB hz).cell 1
        have x2 := (hx1.out.below hB hz).cell 2
        simp at x0 x1 x2
        have hbw : Hid (Below w.heap.size w wr) := hide (hB1w.out.trans (hB.mono hB1w.out.size))
        obtain ⟨c0, c1, c2, c3, c4, c5⟩ := (hat.below hbw.out hb).c6
        have hsn := hide (rowsA_succ hs)
        have hpl := rowsA_len l k
        have hwk := hide (hw.out k hlt)
        clear hat h5 hgv
        generalize rowsA l k = L at *
        obtain ⟨st, pl, sr, gs, ah, la⟩ := s
        simp only at c0 c1 c2 c3 c4 c5 hsn
        have hki : (k : Int) < l.length := by omega
        have hblt : b < wr.heap.size := by omega
        have hxl : w.heap.size < wr.heap.size := by omega
        cases la with
        | true =>
          go_wp2_with (first | (go_at_call 29; (with_reducible refine (hwk.out _ (hbw.out.alloc hbw.out.size _)).mono ?_); rintro e w2 ⟨⟨v2, rfl, how2⟩, hB2⟩; have hB2' := hide hB2; obtain ⟨A2, k2, hv2⟩ := how2.form; subst hv2) | (at_builtin; refine app_ll (.tmp 18) (.tmp 22) rfl rfl rfl rfl (((hown.alloc _).below hB2'.out).alloc _) ((how2.mono (by simp; omega)).alloc _) (Blk.new_ rfl _ _) (by omega) (by have := hB2'.out.size; simp at this ⊢; omega) ?_; intro v3 w3 hown3 hg3))
          refine ⟨⟨k + 1, _, by omega, rfl, by rw [hsn.out]; exact hown3, ?_⟩, by simp [intOf]; omega⟩
          have h6 := hB2'.out.size
          simp at h6
          exact (((hB.alloc hzr _).trans (hB2'.out.mono (by simp; omega))).alloc (by omega) _).grown hg3 (by simp; omega) (fun j e => (World.ownsRow.lt hown.row j e).1)
        | false =>
          have hsn2 := hide (show rowsA l (k + 1) = L by rw [hsn.out]; simp)
          clear hsn
          go_wp2
          exact ⟨⟨k + 1, vs, by omega, rfl, by rw [hsn2.out]; exact hown.alloc _, hB.alloc hzr _⟩, by simp [intOf]; omega⟩
      · obtain rfl : k = l.length := by omega
        clear h4 h5
        go_wp2
        go_ret
        exact ⟨⟨_, vs, rfl, ⟨own_mono hown.row (by omega), fun j r l h1 h2 => (hown.els j r l h1 h2).mono (by omega)⟩⟩, hB1w.out.trans (hB.mono (by omega))⟩
end Go.Proofs.YtmmbblfmhcegcaaGreat

namespace Go.Proofs.YtmmbblfmhcegcaaGreat
open Go.RowKit
attribute [local go_sem] relVal relEff dT grown_cell grown_frozen valF

set_option maxRecDepth 100000 in
theorem ints14_any (xs ys : List Int) (v u : Value) (w : World) (hv : RdI w w.heap.size v xs) (hu : RdI w w.heap.size u ys) :
    Calls Tryz.prog 30 #[v, u] w fun e w' => e = .returned (.bool (decide (xs = ys))) ∧ Below w.heap.size w w' := by
  have hc := hide (ints_any xs ys v u w hv hu)
  obtain ⟨A, c, rfl⟩ := rd_form hv
  obtain ⟨A', c', rfl⟩ := rd_form hu
  generalize decide (xs = ys) = r at *
  clear hv hu
  go_enter Tryz.func30, Tryz.ntmps30
  go_wp2_with (go_at_call 14; (with_reducible refine hc.out.mono ?_); rintro e w1 ⟨rfl, hB1⟩)
  go_ret
  exact ⟨rfl, hB1⟩

set_option maxRecDepth 100000 in
set_option maxHeartbeats 4000000 in
theorem rowed_any (xs ys : List (List Int)) (v u : Value) (w : World) (hv : RdLL w w.heap.size v xs) (hu : RdLL w w.heap.size u ys) :
    Calls Tryz.prog 11 #[v, u] w fun e w' => e = .returned (.bool (decide (xs = ys))) ∧ Below w.heap.size w w' := by
  obtain ⟨A, cap, b, off, rfl, h2, h3, h4, h5⟩ := hv
  obtain ⟨A', cap', b', off', rfl, g2, g3, g4, g5⟩ := hu
  by_cases hne : xs.length ≠ ys.length
  · have hf : decide (xs = ys) = false := by simp; rintro rfl; exact hne rfl
    have hd : ((xs.length : Int) == ys.length) = false := by simp; omega
    have hd' : ((xs.length : Int) != ys.length) = true := by simp; omega
    clear h4 h5 g4 g5
    rw [hf]
    go_enter Tryz.func11, Tryz.ntmps11
    go_wp2
    go_ret
    exact ⟨rfl, Below.refl _ _⟩
  have hl := hide (Decidable.not_not.1 hne)
  have hd : ((xs.length : Int) == ys.length) = true := by simp [hl.out]
  have hd' : ((xs.length : Int) != ys.length) = false := by simp [hl.out]
  clear hne
  go_enter Tryz.func11, Tryz.ntmps11
  go_wp2
  clear hd hd'
  go_loopw [5] (fun i wr => ∃ k : Nat, k ≤ xs.length ∧ i = .int .i64 k ∧ Hid (xs.take k = ys.take k) ∧ Below w.heap.size w wr) (fun i _ => xs.length - (intOf i).toNat)
  case atStart => exact ⟨0, by omega, rfl, hide rfl, Below.refl _ _⟩
  case round =>
    obtain ⟨k, hk, rfl, heq, hB⟩ := hrel
    by_cases hlt : k < xs.length
    · have hlt' : k < ys.length := by have := hl.out; omega
      obtain ⟨rfl, hb⟩ := h4 (by omega)
      obtain ⟨rfl, hb'⟩ := g4 (by omega)
      have hx := List.getElem?_eq_getElem hlt
      have hy := List.getElem?_eq_getElem hlt'
      obtain ⟨vs, ⟨a1, rfl, hr1⟩, hat⟩ := h5 k xs[k] hx
      obtain ⟨us, ⟨a2, rfl, hr2⟩, hat'⟩ := g5 k ys[k] hy
      have c0 := (hat.below hB hb) 0 _ rfl
      have d0 := (hat'.below hB hb') 0 _ rfl
      simp only [Nat.mul_one, Nat.add_zero] at c0 d0
      obtain ⟨B1, n1, rfl⟩ := rd_form hr1
      obtain ⟨B2, n2, rfl⟩ := rd_form hr2
      have hz := hB.size
      have hcall := hide fun w1 (hb : Below wr.heap.size wr w1) => ints14_any xs[k] ys[k] _ _ w1 (hr1.below (hB.trans (hb.mono hz)) (Nat.le_trans hz hb.size)) (hr2.below (hB.trans (hb.mono hz)) (Nat.le_trans hz hb.size))
      have hno : xs[k] ≠ ys[k] → Hid (decide (xs = ys) = false) := fun h => hide (by simpa using jne_at hx hy h)
      have hyes : xs[k] = ys[k] → Hid (xs.take (k + 1) = ys.take (k + 1)) := fun h => hide (jtake_snoc hx (h ▸ hy) heq.out)
      have hno := hide hno
      have hyes := hide hyes
      have hki : (k : Int) < xs.length := by omega
      have hki' : (k : Int) < ys.length := by omega
      have hbr : b < wr.heap.size := by omega
      have hbr' : b' < wr.heap.size := by omega
      clear h5 g5 hat hat' hx hy heq hr1 hr2
      generalize hxk : xs[k] = x1 at *
      generalize hyk : ys[k] = y1 at *
      clear hxk hyk
      obtain ⟨r, hr⟩ : ∃ r, decide (x1 = y1) = r := ⟨_, rfl⟩
      rw [hr] at hcall
      go_upto_region 6 with (fail)
      refine wp_region_tab wr.heap.size (Nat.le_refl _) [(8, valF (.bool r))] [] (by kernel_rfl) (by kernel_rfl) ?tabok ?_
      case tabok =>
        intro p hp
        rw [List.mem_singleton.1 hp]
        exact valF_ok _
      repeat (refine wpRel_one rfl (fun K hK => ?_); go_simp; refine hK _ _ ?_; clear hK K)
      refine wpTab_eff (valF (.bool r)) rfl (fun K hK => ?_)
      go_simp
      refine ⟨fun n => tab_val (Nat.le_refl _) (fun w1 hb hz => hcall.out w1 hb), ?_⟩
      refine hK _ _ ?_
      clear hK K
      repeat (refine wpRel_one rfl (fun K hK => ?_); go_simp; refine hK _ _ ?_; clear hK K)
      refine wpRel_nil ?_
      rintro w7 ⟨n7, rfl⟩ hΓ
      clear hΓ c0 d0
      have hB7 := hide (hB.trans ((grown_below wr.heap.size wr n7).mono hz))
      generalize grown wr.heap.size wr n7 = w7 at *
      cases r with
      | true =>
        have hn := hyes.out (of_decide_eq_true hr)
        clear hno hyes hcall hr
        go_wp2
        exact ⟨⟨k + 1, by omega, rfl, hn, hB7.out⟩, by simp [intOf]; omega⟩
      | false =>
        have hn := hno.out (of_decide_eq_false hr)
        clear hno hyes hcall hr
        go_wp2
        go_ret
        exact ⟨ret_bool hn.out.symm, hB7.out⟩
    · obtain rfl : k = xs.length := by omega
      have hi : Hid (decide (xs = ys) = true) := hide (by simpa using jeq_of_take hl.out heq.out)
      clear h4 h5 g4 g5
      go_wp2
      go_ret
      exact ⟨ret_bool hi.out.symm, hB⟩
end Go.Proofs.YtmmbblfmhcegcaaGreat
