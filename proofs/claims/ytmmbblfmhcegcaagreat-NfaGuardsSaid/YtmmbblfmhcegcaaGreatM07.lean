/- Several texts of one proof: A drawn region whose operations read, make memory, call, append to rows that the region has made, or store: a table of facts that each operation keeps; one walk in the order of the text. | A function in which loops over functions stand within loops: the marks that each leaves for the function's end; append in a round. -/
import Derived.Test.YtmmbblfmhcegcaaGreatM06
import Derived.Maps.AppendAt
import Derived.Test.YtmmbblfmhcegcaaGreatM01

namespace Go.Proofs.YtmmbblfmhcegcaaGreat
open Go.RowKit

/-- All facts of the table that hold before hold behind. -/
def KeepT (L : List (Nat × Fact)) (w w' : World) : Prop := ∀ p ∈ L, ∀ v, p.2.2 v w → p.2.2 v w'
open Classical in
/-- Some world of which C holds. -/
noncomputable def someW (C : World → Prop) (W x : World) : World := if C x then x else W
theorem someW_of {C : World → Prop} {W x : World} (h : C x) : someW C W x = x := if_pos h
theorem someW_is {C : World → Prop} {W : World} (x : World) (h : C W) : C (someW C W x) := by
  unfold someW
  split
  · rename_i h; exact h
  · exact h

theorem wp_region_inv {P : Program} {id : Nat} {Q : Exit → Act → World → Prop} {a : Act} {w : World} {ops : List Oper} (C : World → Prop) (L : List (Nat × Fact)) (D : List (Nat × List Nat)) (hd : C w.drew)
    (hm : P.follows .mixedOrders = true) (hB : relB ops.toArray (dT D) = true) (hinh : ∀ p ∈ L, ∃ v, p.2.1 v)
    (h : wpRel P ops.toArray (fun w' => ∃ n, w' = someW C w n) (KeepT L) (pfT L) (dT D) (fun a' w' => Q .normal a' w') ops 0 (fun _ => undef) [] a) :
    (Code.region id ops.toArray true).wp P Q a w := by
  have mem : ∀ {k : Nat} {f : Fact}, L.lookup k = some f → ∃ j, (j, f) ∈ L := fun h => lookup_mem h
  refine wp_region_rel _ _ (pfT L) (dT D) hm hB ?_ ?_ ?_ ⟨w.drew, (someW_of hd).symm⟩ h
  · intro k R hR vs vs' v w hd hr
    obtain ⟨f, -, rfl⟩ := Option.map_eq_some_iff.1 hR
    exact hr
  · intro k R hR
    obtain ⟨f, hf, rfl⟩ := Option.map_eq_some_iff.1 hR
    obtain ⟨j, hj⟩ := mem hf
    exact hinh _ hj
  · intro k R hR vs v w w' hr _ hE
    obtain ⟨f, hf, rfl⟩ := Option.map_eq_some_iff.1 hR
    obtain ⟨j, hj⟩ := mem hf
    exact hE _ hj v hr

theorem keep_below {L : List (Nat × Fact)} {w w' : World} (hok : ∀ p ∈ L, FactOk p.2) (hb : Below w.heap.size w w') : KeepT L w w' := fun p hp _ h => (hok p hp).stable _ _ _ h hb
theorem inv_below {C : World → Prop} {L : List (Nat × Fact)} {W x w' : World} (hW : C W) (hC : ∀ w w', C w → Below w.heap.size w w' → C w') (hok : ∀ p ∈ L, FactOk p.2) (hb : Below (someW C W x).heap.size (someW C W x) w') :
    (∃ n, w' = someW C W n) ∧ KeepT L (someW C W x) w' :=
  ⟨⟨w', (someW_of (hC _ _ (someW_is x hW) hb)).symm⟩, keep_below hok hb⟩
theorem inv_call {P : Program} {C : World → Prop} {L : List (Nat × Fact)} {W x : World} {f : FuncId} {args : Array Value} {R : Value → World → Prop} (hW : C W) (hC : ∀ w w', C w → Below w.heap.size w w' → C w') (hok : ∀ p ∈ L, FactOk p.2)
    (h : Calls P f args (someW C W x) fun e w' => (∃ v, e = .returned v ∧ R v w') ∧ Below (someW C W x).heap.size (someW C W x) w') :
    Calls P f args (someW C W x) fun e w'' => ∃ v, e = .returned v ∧ (∃ n, w'' = someW C W n) ∧ KeepT L (someW C W x) w'' ∧ R v w'' :=
  h.mono fun _ _ ⟨⟨v, he, hr⟩, hb⟩ => ⟨v, he, (inv_below hW hC hok hb).1, (inv_below hW hC hok hb).2, hr⟩

/-- A row whose elements are n, of the cells xs. -/
def rowG (e : TypeId) (sz G n : Nat) (xs : List Value) : Fact := (fun v => ∃ A cap, v = .slice A n cap, fun v w => w.ownsRow G e sz v n xs)
/-- A row without room behind it, of one block. -/
def fullG (e : TypeId) (G n : Nat) (xs : List Value) : Fact := (fun v => ∃ g, v = .slice (some ⟨g, 0, none⟩) n n, fun v w => ∃ g, v = .slice (some ⟨g, 0, none⟩) n n ∧ G ≤ g ∧ w.heap[g]? = some (.cells xs.toArray e (0, 0)))
theorem rowG_ok (e : TypeId) (sz G n : Nat) (xs : List Value) : FactOk (rowG e sz G n xs) := ⟨⟨_, none, 0, rfl⟩, fun _ _ _ h hb => own_below h hb (Nat.le_refl _)⟩
theorem fullG_ok (e : TypeId) (G n : Nat) (xs : List Value) : FactOk (fullG e G n xs) := ⟨⟨_, 0, rfl⟩, fun _ _ _ ⟨g, h1, h2, h3⟩ hb => ⟨g, h1, h2, (hb.block g (Array.getElem?_eq_some_iff.1 h3).1).trans h3⟩⟩

theorem relEff_append {P : Program} {C : World → Prop} {E : World → World → Prop} {R : Value → World → Prop} {o : Oper} {a : Act} {w w' : World} {s x : Operand} {t : TypeId} {v u v' : Value}
    (ho : o.op = .call { callee := .builtin .append, args := #[s, x], argTypes := #[t, t] }) (hs : a.eval s = v) (hx : a.eval x = u) (hrun : (Builtin.append_ #[t, t] o.type #[v, u]).run P w = .ok v' w') (h : C w' ∧ E w w' ∧ R v' w') :
    relEff P C E R w ((execOp a.eval o).run P w) := by
  unfold execOp
  simp only [ho, resolve, invoke, builtin, Sem.run_bind, Sem.run_pure, Result.andThen_ok, List.map_toArray, List.map_cons, List.map_nil, hs, hx, hrun]
  exact h

/-- What an append may have done to each block: nothing, or it has written behind a row of the cells xs. -/
def Ovr (w w' : World) (e : TypeId) (sz n : Nat) (xs news : List Value) : Prop :=
  ∀ (k : Nat) (o : Obj), w.heap[k]? = some o → w'.heap[k]? = some o ∨ ∃ cur cap, o = .cells cur e (0, 0) ∧ cur.size = cap * sz ∧ n + 1 ≤ cap ∧ w'.heap[k]? = some (.cells (xs ++ news ++ cur.toList.drop (n * sz + news.length)).toArray e (0, 0))

theorem run_app_empty {P : Program} {w : World} {G : Nat} {t ty e : TypeId} {i : TypeInfo} {z : Value} {sz bytes : Nat} (ht : P.underlying t = some (.slice e)) (hi : P.info? e = some i) (hz : i.zero = some z) (hsize : i.size = sz) (hby : i.bytes = bytes) (hzs : z.cells.size = sz)
    {g : Nat} (hg : w.heap[g]? = some (.cells #[] e (0, 0))) (hGg : G ≤ g) (hG : G ≤ w.heap.size) (A : Option Addr) (m c : Nat) (news : List Value) (hA : A = none → m = 0) (hl : news.length = m * sz) (hnews : ∀ ad, A = some ad → ∀ j u, news[j]? = some u → w.cell? (ad.add j) = some u) (h1 : ∀ u ∈ news, u.oneCell' = true)
    (h63 : m ≤ maxLen) (hbytes : m * bytes ≤ 140737488355328) :
    ∃ v' w', (Builtin.append_ #[t, t] ty #[.slice (some ⟨g, 0, none⟩) 0 0, .slice A m c]).run P w = .ok v' w' ∧ w'.ownsRow G e sz v' m news ∧ Below w.heap.size w w' := by
  subst hsize hby
  have hrow0 : w.ownsRow G e i.size (.slice (some ⟨g, 0, none⟩) 0 0) 0 [] := ⟨by simp, .inr ⟨g, 0, #[], rfl, hGg, hg, Nat.le_refl _, Nat.zero_le _, by simp, by simp⟩⟩
  rcases Nat.eq_zero_or_pos m with hm | hm
  · subst hm
    have hn : news = [] := List.eq_nil_of_length_eq_zero (by simpa using hl)
    subst hn
    cases A with
    | none => exact ⟨_, w, run_app_nil ht hi ty hrow0 c, hrow0, Below.refl _ _⟩
    | some ad =>
      have hr := run_append_room (P := P) w t ty e i ht hi g 0 0 #[] hg ad 0 c [] (by simp) (by simp) (by simp) (Nat.le_refl _) (by simp)
      simp at hr
      refine ⟨_, _, hr, ?_, ?_⟩
      · exact ⟨by simp, .inr ⟨g, 0, #[], rfl, hGg, setRow_heap w g #[] _ e _ hg, Nat.le_refl _, Nat.zero_le _, by simp, by simp⟩⟩
      · refine ⟨rfl, rfl, rfl, by simp [World.setRow], fun k hk => ?_⟩
        by_cases hkg : k = g
        · subst hkg
          rw [setRow_heap w k #[] _ e _ hg, hg]
        · exact setRow_other w g k _ hkg
  · cases A with
    | none => have := hA rfl; omega
    | some ad =>
      have hsm : m ≤ 9223372036854775807 := by unfold maxLen at h63; omega
      have hr := run_append_grow (P := P) w t ty e i z ht hi hz ⟨g, 0, none⟩ 0 0 [] (by simp) (by simp) ad m c news hl (hnews ad rfl) (by omega) (by omega) (growslice_fits (by omega) (by simpa using hbytes))
      simp only [Nat.zero_add, Array.empty_append] at hr
      refine ⟨_, _, hr, ?_, ?_⟩
      · refine ⟨hl, .inr ⟨w.heap.size, _, _, rfl, hG, heap_alloc_new w.drew _, grownCap_ge w m 0 e, grownCap_le_maxLen w m 0 e h63, ?_, ?_⟩⟩
        · have hge := grownCap_ge w m 0 e
          simp only [Array.size_append, List.size_toArray, size_zeroCells, hzs, hl, ← Nat.add_mul]
          congr 1
          omega
        · simp [← hl]
      · exact ⟨rfl, rfl, rfl, by simp, fun k hk => heap_alloc_old w.drew _ hk⟩
theorem run_app_row_g {P : Program} {w : World} {G : Nat} {t ty e : TypeId} {i : TypeInfo} {z : Value} {sz bytes : Nat} (ht : P.underlying t = some (.slice e)) (hi : P.info? e = some i) (hz : i.zero = some z) (hsize : i.size = sz) (hby : i.bytes = bytes) (hzs : z.cells.size = sz)
    {v : Value} {n : Nat} {xs : List Value} (hv : w.ownsRow G e sz v n xs) (hG : G ≤ w.heap.size) (ad : Addr) (c : Nat) (news : List Value) (hl : news.length = sz) (hnews : ∀ j u, news[j]? = some u → w.cell? (ad.add j) = some u) (h1 : ∀ u ∈ news, u.oneCell' = true)
    (h63 : n + 1 ≤ maxLen) (hbytes : (n + 1) * bytes ≤ 140737488355328) :
    ∃ v' w', (Builtin.append_ #[t, t] ty #[v, .slice (some ad) 1 c]).run P w = .ok v' w' ∧ w'.ownsRow G e sz v' (n + 1) (xs ++ news) ∧ Below G w w' ∧ Ovr w w' e sz n xs news ∧ w.grownBy w' v.ownBlock ∧ (v'.ownBlock = v.ownBlock ∨ v'.ownBlock = some w.heap.size) := by
  subst hsize hby
  have hsm : n + 1 ≤ 9223372036854775807 := by unfold maxLen at h63; omega
  have hlen : (xs ++ news).length = (n + 1) * i.size := by rw [List.length_append, hv.1, hl, Nat.add_mul, Nat.one_mul]
  have grow : ∀ old, old < n + 1 → (w.drew.alloc (.cells (xs.toArray ++ news.toArray ++ Builtin.zeroCells z.cells (grownCap w (n + 1) old e - (n + 1))) e)).ownsRow G e i.size (.slice (some ⟨w.heap.size, 0, none⟩) (n + 1) (grownCap w (n + 1) old e)) (n + 1) (xs ++ news) ∧
      Below G w (w.drew.alloc (.cells (xs.toArray ++ news.toArray ++ Builtin.zeroCells z.cells (grownCap w (n + 1) old e - (n + 1))) e)) ∧ Ovr w (w.drew.alloc (.cells (xs.toArray ++ news.toArray ++ Builtin.zeroCells z.cells (grownCap w (n + 1) old e - (n + 1))) e)) e i.size n xs news ∧ ∀ row, w.grownBy (w.drew.alloc (.cells (xs.toArray ++ news.toArray ++ Builtin.zeroCells z.cells (grownCap w (n + 1) old e - (n + 1))) e)) row := by
    intro old ho
    have hge := grownCap_ge w (n + 1) old e
    refine ⟨⟨hlen, .inr ⟨w.heap.size, _, _, rfl, hG, heap_alloc_new w.drew _, hge, grownCap_le_maxLen w (n + 1) old e h63, ?_, ?_⟩⟩, ⟨rfl, rfl, rfl, by simp, fun k hk => heap_alloc_old w.drew _ (Nat.lt_of_lt_of_le hk hG)⟩, fun k o ho => .inl ?_, fun row => ⟨rfl, rfl, rfl, by simp, fun k hk _ => heap_alloc_old w.drew _ hk⟩⟩
    · simp only [Array.size_append, List.size_toArray, size_zeroCells, hzs, hv.1, hl]
      rw [← Nat.succ_mul, ← Nat.add_mul]
      congr 1
      omega
    · simp only [Array.toList_append, List.append_assoc]
      rw [← List.append_assoc, ← hlen]
      exact List.take_left
    · exact (heap_alloc_old w.drew _ (Array.getElem?_eq_some_iff.1 ho).1).trans ho
  rcases hv.2 with ⟨rfl, rfl⟩ | ⟨g, cap, cur, rfl, hbg, hg, hnc, hcm, hcs, htake⟩
  · have hx : xs = [] := List.eq_nil_of_length_eq_zero (by simpa using hv.1)
    subst hx
    have hr := run_append_nil (P := P) w t ty e i z ht hi hz ad 1 c news (by simpa using hl) hnews (by omega) (by omega) (by simp only [Nat.zero_add, Nat.one_mul] at hbytes; omega)
    have hgr := grow 0 (by omega)
    simp only [Nat.zero_add, List.nil_append, Array.empty_append] at hgr ⊢
    exact ⟨_, _, hr, hgr.1, hgr.2.1, hgr.2.2.1, hgr.2.2.2 _, .inr rfl⟩
  · by_cases hroom : n + 1 ≤ cap
    · have hfit : n * i.size + news.length ≤ cur.size := by
        rw [hl, hcs, ← Nat.succ_mul]
        exact Nat.mul_le_mul_right _ hroom
      have hr := run_append_room (P := P) w t ty e i ht hi g n cap cur hg ad 1 c news (by simpa using hl) hnews h1 hroom hfit
      rw [htake] at hr
      refine ⟨_, _, hr, ⟨hlen, .inr ⟨g, cap, _, rfl, hbg, setRow_heap w g cur _ e _ hg, hroom, hcm, ?_, ?_⟩⟩, ⟨rfl, rfl, rfl, by simp [World.setRow], fun k hk => setRow_other w g k _ (by omega)⟩, fun k o ho => ?_, ⟨rfl, rfl, rfl, by simp [World.setRow], fun k _ hk => setRow_other w g k _ (fun e => hk (by simp [Value.ownBlock, e]))⟩, .inl rfl⟩
      · have h2 := hv.1
        simp only [List.size_toArray, List.length_append, List.length_drop, Array.length_toList]
        omega
      · rw [← hlen]
        exact List.take_left
      · by_cases hk : k = g
        · subst hk
          rw [hg] at ho
          cases ho
          exact .inr ⟨cur, cap, rfl, hcs, hroom, setRow_heap w k cur _ e _ hg⟩
        · exact .inl ((setRow_other w g k _ hk).trans ho)
    · have holds : ∀ j u, xs[j]? = some u → w.cell? ((⟨g, 0, none⟩ : Addr).add j) = some u := hv.cells (g := g) rfl
      have hr := run_append_grow (P := P) w t ty e i z ht hi hz ⟨g, 0, none⟩ n cap xs hv.1 holds ad 1 c news (by simpa using hl) hnews (by omega) (by omega) (growslice_fits (by omega) hbytes)
      have hgr := grow cap (by omega)
      exact ⟨_, _, hr, hgr.1, hgr.2.1, hgr.2.2.1, hgr.2.2.2 _, .inr rfl⟩

theorem run_app_row {P : Program} {w : World} {G : Nat} {t ty e : TypeId} {i : TypeInfo} {z : Value} {sz bytes : Nat} (ht : P.underlying t = some (.slice e)) (hi : P.info? e = some i) (hz : i.zero = some z) (hsize : i.size = sz) (hby : i.bytes = bytes) (hzs : z.cells.size = sz)
    {v : Value} {n : Nat} {xs : List Value} (hv : w.ownsRow G e sz v n xs) (hG : G ≤ w.heap.size) (ad : Addr) (c : Nat) (news : List Value) (hl : news.length = sz) (hnews : ∀ j u, news[j]? = some u → w.cell? (ad.add j) = some u) (h1 : ∀ u ∈ news, u.oneCell' = true)
    (h63 : n + 1 ≤ maxLen) (hbytes : (n + 1) * bytes ≤ 140737488355328) :
    ∃ v' w', (Builtin.append_ #[t, t] ty #[v, .slice (some ad) 1 c]).run P w = .ok v' w' ∧ w'.ownsRow G e sz v' (n + 1) (xs ++ news) ∧ Below G w w' ∧ Ovr w w' e sz n xs news :=
  let ⟨v', w', h1, h2, h3, h4, _⟩ := run_app_row_g (ty := ty) ht hi hz hsize hby hzs hv hG ad c news hl hnews h1 h63 hbytes
  ⟨v', w', h1, h2, h3, h4⟩

section
variable {w w' : World} {e : TypeId} {sz n : Nat} {xs news : List Value}
/-- A row whose cells stand ahead in the row that was written stays. -/
theorem Ovr.row (h : Ovr w w' e sz n xs news) (hx : xs.length = n * sz) (hl : news.length = sz) {G m : Nat} {v : Value} {ys : List Value} (hv : w.ownsRow G e sz v m ys) (hp : ∃ r, xs ++ news = ys ++ r) : w'.ownsRow G e sz v m ys := by
  refine ⟨hv.1, ?_⟩
  rcases hv.2 with h1 | ⟨g, cap, cur, rfl, hbg, hg, hnc, hcm, hcs, htake⟩
  · exact .inl h1
  · rcases h g _ hg with h1 | ⟨cur', cap', e1, e2, e3, e4⟩
    · exact .inr ⟨g, cap, cur, rfl, hbg, h1, hnc, hcm, hcs, htake⟩
    · cases e1
      obtain ⟨r, hr⟩ := hp
      refine .inr ⟨g, cap, _, rfl, hbg, e4, hnc, hcm, ?_, ?_⟩
      · have hle : n * sz + news.length ≤ cur.size := by
          rw [hl, e2, ← Nat.succ_mul]
          exact Nat.mul_le_mul_right _ e3
        simp only [List.size_toArray, List.length_append, List.length_drop, Array.length_toList, hx]
        omega
      · rw [hr, List.append_assoc, ← hv.1]
        exact List.take_left
theorem Ovr.full0 (h : Ovr w w' e sz n xs news) (h0 : 0 < sz) {G : Nat} {v : Value} (hv : (fullG e G 0 []).2 v w) : (fullG e G 0 []).2 v w' := by
  obtain ⟨g, rfl, h2, h3⟩ := hv
  refine ⟨g, rfl, h2, ?_⟩
  rcases h g _ h3 with h1 | ⟨cur, cap, e1, e2, e3, -⟩
  · exact h1
  · cases e1
    have h5 : 0 < cap * sz := Nat.mul_pos (by omega) h0
    rw [← e2] at h5
    simp at h5
theorem Ovr.full1 (h : Ovr w w' e sz n xs news) (hx : xs.length = n * sz) (hl : news.length = sz) (h0 : 0 < sz) {G : Nat} {v : Value} (hv : (fullG e G 1 news).2 v w) : (fullG e G 1 news).2 v w' := by
  obtain ⟨g, rfl, h2, h3⟩ := hv
  refine ⟨g, rfl, h2, ?_⟩
  rcases h g _ h3 with h1 | ⟨cur, cap, e1, e2, e3, e4⟩
  · exact h1
  · cases e1
    simp only [List.size_toArray, hl] at e2
    have hc : cap = 1 := by
      have h5 : cap * sz = 1 * sz := by omega
      exact Nat.eq_of_mul_eq_mul_right h0 h5
    have hn : n = 0 := by omega
    subst hn
    have hx0 : xs = [] := List.eq_nil_of_length_eq_zero (by simpa using hx)
    subst hx0
    rw [e4]
    simp
theorem Ovr.blk (h : Ovr w w' e sz n xs news) {g : Nat} {t : TypeId} {cs : Array Value} (hb : Blk w g t cs) (ht : t ≠ e) : Blk w' g t cs := by
  rcases h g _ hb with h1 | ⟨cur, cap, e1, -⟩
  · exact h1
  · cases e1
    exact absurd rfl ht
theorem Ovr.row_other (h : Ovr w w' e sz n xs news) {G m sz' : Nat} {t : TypeId} {v : Value} {ys : List Value} (hv : w.ownsRow G t sz' v m ys) (ht : t ≠ e) : w'.ownsRow G t sz' v m ys := by
  refine ⟨hv.1, ?_⟩
  rcases hv.2 with h1 | ⟨g, cap, cur, rfl, hbg, hg, r⟩
  · exact .inl h1
  · exact .inr ⟨g, cap, cur, rfl, hbg, h.blk hg ht, r⟩
end

/-- A box bears, besides u, a row of the call's own. -/
def stF (B : Nat) (t e : TypeId) (sz G n : Nat) (xs : List Value) (u : Value) : Fact := (fun v => v = undef, fun _ w => ∃ r, Blk w B t #[r, u] ∧ w.ownsRow G e sz r n xs)
theorem stF_ok (B : Nat) (t e : TypeId) (sz G n : Nat) (xs : List Value) (u : Value) : FactOk (stF B t e sz G n xs u) := ⟨⟨_, rfl⟩, fun _ _ _ ⟨r, h1, h2⟩ hb => ⟨r, h1.below hb h1.lt, own_below h2 hb (Nat.le_refl _)⟩⟩
theorem inv_alloc {C : World → Prop} {L : List (Nat × Fact)} {W : World} (hW : C W) (hC : ∀ w w', C w → Below w.heap.size w w' → C w') (hok : ∀ p ∈ L, FactOk p.2) (o : Obj) (x : World) :
    (∃ n, (someW C W x).alloc o = someW C W n) ∧ KeepT L (someW C W x) ((someW C W x).alloc o) := inv_below hW hC hok ((Below.refl _ _).alloc (Nat.le_refl _) _)
theorem fullG_new {e : TypeId} {G n : Nat} {xs : List Value} {w : World} (hG : G ≤ w.heap.size) : (fullG e G n xs).1 (.slice (some ⟨w.heap.size, 0, none⟩) n n) ∧ (fullG e G n xs).2 (.slice (some ⟨w.heap.size, 0, none⟩) n n) (w.alloc (.cells xs.toArray e)) :=
  ⟨⟨_, rfl⟩, _, rfl, hG, heap_alloc_new w _⟩
theorem inv_val {P : Program} {C : World → Prop} {L : List (Nat × Fact)} {W x : World} {f : FuncId} {args : Array Value} {c : Value} (hW : C W) (hC : ∀ w w', C w → Below w.heap.size w w' → C w') (hok : ∀ p ∈ L, FactOk p.2)
    (h : Calls P f args (someW C W x) fun e w' => e = .returned c ∧ Below (someW C W x).heap.size (someW C W x) w') :
    Calls P f args (someW C W x) fun e w'' => ∃ v, e = .returned v ∧ (∃ n, w'' = someW C W n) ∧ KeepT L (someW C W x) w'' ∧ v = c :=
  h.mono fun _ _ ⟨he, hb⟩ => ⟨c, he, (inv_below hW hC hok hb).1, (inv_below hW hC hok hb).2, rfl⟩
theorem OwI.src {w : World} {base cap : Nat} {A : Option Addr} {l : List Int} (h : OwI w base (.slice A l.length cap) l) :
    (A = none → l.length = 0) ∧ ∀ ad, A = some ad → ∀ j u, (l.map (Value.int .i64))[j]? = some u → w.cell? (ad.add j) = some u := by
  have hc := fun g => World.ownsRow.cells (g := g) h
  rcases h.2 with ⟨e, hn⟩ | ⟨g, cap', cur, e, -⟩
  · injection e with e1
    subst e1
    exact ⟨fun _ => hn, fun ad e => nomatch e⟩
  · injection e with e1
    subst e1
    refine ⟨fun e => (nomatch e), fun ad e => ?_⟩
    cases e
    exact hc _ rfl
end Go.Proofs.YtmmbblfmhcegcaaGreat

namespace Go.Proofs.YtmmbblfmhcegcaaGreat
open Go.RowKit Go.Shelf

def coll (D : Nat) : Deferred := { target := .collected D, args := #[] }
def DefOk (W : World) (ds : List Nat) : Prop := ∀ D ∈ ds, W.heap[D]? = some (.deferred (some []))
theorem DefOk.keeps {W W' : World} {ds : List Nat} (h : DefOk W ds) (k : KeepsOthers W W') : DefOk W' ds := fun D hD => k.same D _ (h D hD) rfl
theorem DefOk.kept {n : Nat} {W W' : World} {ds : List Nat} (h : DefOk W ds) (hn : ∀ D ∈ ds, D < n) (k : Kept n W W') : DefOk W' ds := fun D hD => (k.below.block D (hn D hD)).trans (h D hD)
theorem DefOk.lt {W : World} {ds : List Nat} (h : DefOk W ds) : ∀ D ∈ ds, D < W.heap.size := fun D hD => (Array.getElem?_eq_some_iff.1 (h D hD)).1

theorem rf_ret_list {P : Program} {fn : Func} {R : Ending → World → Prop} {a : Act} {v : Value} {ds : List Nat} : ∀ {W : World}, a.defers = ds.map coll → DefOk W ds → ds.Nodup →
    (∀ W', (∀ (k : Nat) (o : Obj), W.heap[k]? = some o → o.isCells = true → W'.heap[k]? = some o) → (∀ B, (∀ D ∈ ds, B ≤ D) → Below B W W') → (results fn a.tmps).run P W' = .ok v W' ∧ R (.returned v) W') →
    bodyPostM Fence.wide 3 P fn R .ret a W := by
  intro W hd hK hn h
  show LeavesInM Fence.wide 3 P fn a.tmps R a.defers .returning W
  rw [hd]
  clear hd
  induction ds generalizing W with
  | nil =>
    obtain ⟨h1, h2⟩ := h W (fun _ _ h _ => h) (fun B _ => Below.refl _ _)
    exact ⟨_, h1, h2⟩
  | cons D ds ih =>
    obtain ⟨hn1, hn2⟩ := List.nodup_cons.1 hn
    have hD := hK D (by simp)
    refine ⟨by simp, .inl ⟨_, _, rfl, run_takeDeferred hD, ih ?_ hn2 ?_⟩⟩
    · intro D' hD'
      rw [World.putObj_heap_other (by rintro rfl; exact hn1 hD')]
      exact hK D' (by simp [hD'])
    · intro W' hc hb
      refine h W' (fun k o hk ho => hc k o ?_ ho) (fun B hB => ?_)
      · rw [World.putObj_heap_other (by rintro rfl; rw [hD] at hk; cases hk; cases ho)]
        exact hk
      · have hlt := (Array.getElem?_eq_some_iff.1 hD).1
        have hBD := hB D (by simp)
        refine Below.trans (Below.putD (Below.refl _ _) (by omega) hBD _) (hb B fun D' hD' => hB D' (by simp [hD']))

section
variable {w w' : World} {base : Nat} {v : Value} {l : List Int}
theorem OwI.keptK {n : Nat} (h : OwI w base v l) (k : Kept n w w') : OwI w' base v l := by
  refine ⟨h.1, ?_⟩
  rcases h.2 with h2 | ⟨g, cap, cur, hv, hg, hh, r⟩
  · exact .inl h2
  · exact .inr ⟨g, cap, cur, hv, hg, k.cells _ _ hh rfl, r⟩
theorem OwI.cells (h : OwI w base v l) (k : ∀ (g : Nat) (o : Obj), w.heap[g]? = some o → o.isCells = true → w'.heap[g]? = some o) : OwI w' base v l := by
  refine ⟨h.1, ?_⟩
  rcases h.2 with h2 | ⟨g, cap, cur, hv, hg, hh, r⟩
  · exact .inl h2
  · exact .inr ⟨g, cap, cur, hv, hg, k _ _ hh rfl, r⟩
end
section
variable {F : Fence} {m : Nat} {ops : Array Oper} {rest : List Oper} {o : Oper} {a : Act} {Q : Exit → Act → World → Prop} {w : World} {base g : Nat} {v : Value} {l : List Int} {x : Int}
/-- 'append(s, x)' of one number, in a fence. -/
theorem app1In (s y : Operand) (hgd : o.guard = none) (ho : o.op = .call { callee := .builtin .append, args := #[s, y], argTypes := #[28, 28] })
    (hs : a.eval s = v) (hy : a.eval y = .slice (some ⟨g, 0, none⟩) 1 1) (hown : OwI w base v l) (hc : w.cell? ⟨g, 0, none⟩ = some (.int .i64 x)) (hl : l.length < 1000000) (hb : base ≤ w.heap.size)
    (h : ∀ v' w', OwI w' base v' (l ++ [x]) → w.grownBy w' v.ownBlock → wpListIn F m Tryz.prog ops Q rest (a.put o.dst v') w') : wpListIn F m Tryz.prog ops Q (o :: rest) a w := by
  obtain ⟨i0, hi, hz0, hz1, hz2⟩ := info_parts int_info
  refine wpListIn_append_own w hgd s y 28 ho base 3 i0 (.int .i64 0) 1 8 Tryz.underlying28 hi hz0 hz1 hz2 rfl (by decide) v l.length _ hs hown ⟨g, 0, none⟩ 1 1 [.int .i64 x] hy rfl
    (cell_one_new' hc) (by simp [Value.oneCell']) (by unfold maxLen; omega) (by omega) hb ?_
  intro v' w' h1 h2 _
  exact h v' w' (by simpa [OwI] using h1) h2
end
end Go.Proofs.YtmmbblfmhcegcaaGreat
