/- Several texts of one proof: A region that draws its order, in a function that holds loops over functions. | A row of a pattern laid into its automaton: what the inner loop knows of the memory, and how that changes; the table's facts for the negative steps; append of a state in a fence. -/
import Derived.Test.YtmmbblfmhcegcaaGreatM05
import Derived.Test.YtmmbblfmhcegcaaGreatM07
import Derived.Test.YtmmbblfmhcegcaaGreatM10
import Derived.OrdersIn
import Derived.OwnWalkIn
import Derived.TacticsIn
import Derived.Test.YtmmbblfmhcegcaaGreatM18

namespace Go.Proofs.YtmmbblfmhcegcaaGreat
open Go.RowKit Go Go.Shelf

section
variable {P : Program} {ops : Array Oper} {Q : Exit → Act → World → Prop} {n : Nat}
theorem rows_wide {row : String} {args : Array Value} {w : World} {R : Value → World → Prop} (h : Rows P row args w R) : RowsIn Fence.wide n P row args w R := fun c cs _ => by
  obtain ⟨v, w', r, s⟩ := h c cs
  exact ⟨v, w', r, stepsIn_wide.2 s⟩
theorem oper_wide {o : Oper} {a : Act} {w : World} {K : Act → World → Prop} (hd : ∀ c, o.op ≠ .defer c) (h : o.wp P a w K Q) : o.wpIn Fence.wide n P a w K Q := by
  unfold Oper.wp at h
  unfold Oper.wpIn
  refine ⟨fun _ _ => trivial, ?_⟩
  rw [Oper.semAt_plain Fence.wide _ o hd]
  generalize (execOp a.eval o).run P w = r at h ⊢
  cases r with
  | ok x w' =>
    cases x <;> simp only [Oper.upon] at h
    all_goals first | exact ⟨fun h => (by cases h), callsIn_wide.2 h⟩ | exact ⟨fun h => (by cases h), rows_wide h⟩ | exact h.elim | exact h
  | halt x w' => cases x <;> simp only [Oper.upon] at h <;> first | exact h | exact h.elim
theorem any_wide (hd : noDefer ops = true) (hQ : ¬ LetsOut Q) : ∀ (fuel : Nat) (listed : Array Bool) (a : Act) (w : World), wpAny P .any ops Q fuel listed a w → wpAnyIn Fence.wide n P .any ops Q fuel listed a w := by
  intro fuel
  induction fuel with
  | zero => intro listed a w h; exact h
  | succ fuel ih =>
    intro listed a w h
    refine ⟨h.1, fun i hi => ?_⟩
    have h1 := h.2 i hi
    unfold wpOp at h1
    unfold wpOpIn
    cases ho : ops[i]? with
    | none =>
      rw [ho] at h1
      exact ih _ _ _ h1
    | some o =>
      rw [ho] at h1
      simp only at h1 ⊢
      split
      · rename_i hw
        rw [if_pos hw] at h1
        rcases h1 with h1 | ⟨-, h1⟩
        · exact Oper.wpIn_mono (fun a w h => ih _ a w h) (oper_wide (noDefer_spec hd ho) h1)
        · exact absurd h1 hQ
      · rename_i hw
        rw [if_neg hw] at h1
        exact ⟨fun _ _ => trivial, ih _ _ _ h1⟩

/-- The law of the table, in a round. -/
theorem wp_region_wide {id : Nat} {a : Act} {w : World} {l' : List Oper} (C : World → Prop) (L : List (Nat × Fact)) (D : List (Nat × List Nat)) (hd : C w.drew) (hdef : noDefer l'.toArray = true) (hQ : ¬ LetsOut Q)
    (hm : P.follows .mixedOrders = true) (hB : relB l'.toArray (dT D) = true) (hinh : ∀ p ∈ L, ∃ v, p.2.1 v)
    (h : wpRel P l'.toArray (fun w' => ∃ n, w' = someW C w n) (KeepT L) (pfT L) (dT D) (fun a' w' => Q .normal a' w') l' 0 (fun _ => undef) [] a) :
    (Code.region id l'.toArray true).wpIn Fence.wide n P Q a w := by
  have mem : ∀ {k : Nat} {f : Fact}, L.lookup k = some f → ∃ j, (j, f) ∈ L := fun h => lookup_mem h
  have hB' := relB_spec hB
  have hrep : ∀ m, (fun j => (Array.replicate m false).getD j false) = fun _ => false := fun m => by
    funext j
    simp [Array.getElem?_replicate]
    split <;> rfl
  have hno : ∀ j, (Array.replicate l'.toArray.size false).getD j false = true → False := fun j hj => by
    rw [show (Array.replicate l'.toArray.size false).getD j false = false from congrFun (hrep l'.toArray.size) j] at hj
    cases hj
  refine wpIn_region_any hm (any_wide hdef hQ _ _ _ _ ?_)
  refine wpAny_of_rel (a0 := a) (Q := fun a' w' => Q .normal a' w') (fun _ _ h => h) rfl hB' ?_ ?_ ?_ h _ _ (fun _ => undef) _ _ (by simp) ?_ ?_ ?_ ⟨w.drew, (someW_of hd).symm⟩ ?_ ?_
  · intro k R hR vs vs' v w hd hr
    obtain ⟨f, -, rfl⟩ := Option.map_eq_some_iff.1 hR
    exact hr
  · intro k R hR
    obtain ⟨f, hf, rfl⟩ := Option.map_eq_some_iff.1 hR
    obtain ⟨j, hj⟩ := mem hf
    exact hinh _ hj
  · intro k R hR vs v w w' hr _ hE
    obtain ⟨f, hf, rfl⟩ := Option.map_eq_some_iff.1 hR
    obtain ⟨j, hj⟩ := mem hf
    exact hE _ hj v hr
  · rw [hrep]
    unfold left
    rw [List.filter_eq_self.2 (by simp)]
    simp
  · intro j hj
    exact (hno j hj).elim
  · rw [hrep]
    generalize l'.toArray.size = n
    induction n with
    | zero => rfl
    | succ n ih => simpa [frameR] using ih
  · intro j hj
    exact (hno j hj).elim
  · intro j hj
    exact (hno j hj).elim

/-- The same where the region ends in one operation that waits for all others. -/
theorem wp_region_wideT {id : Nat} {a : Act} {w : World} {l' : List Oper} {ot : Oper} (hops : ops = (l' ++ [ot]).toArray) (C : World → Prop) (L : List (Nat × Fact)) (D : List (Nat × List Nat)) (hd : C w.drew) (hdef : noDefer ops = true) (hQ : ¬ LetsOut Q)
    (hm : P.follows .mixedOrders = true) (hB : relB ops (dT D) = true) (hinh : ∀ p ∈ L, ∃ v, p.2.1 v) (hs : sinkT ops l'.length = true) (hg : ot.guard = none)
    (h : wpRel P ops (fun w' => ∃ n, w' = someW C w n) (KeepT L) (pfT L) (dT D) (fun a' w' => ot.wp P a' w' (Q .normal) Q) l' 0 (fun _ => undef) [] a) :
    (Code.region id ops true).wpIn Fence.wide n P Q a w := by
  have mem : ∀ {k : Nat} {f : Fact}, L.lookup k = some f → ∃ j, (j, f) ∈ L := fun h => lookup_mem h
  have hB' := relB_spec hB
  have hot : ops[l'.length]? = some ot := by rw [hops]; simp
  have hrep : ∀ m, (fun j => (Array.replicate m false).getD j false) = fun _ => false := fun m => by
    funext j
    simp [Array.getElem?_replicate]
    split <;> rfl
  have hno : ∀ j, (Array.replicate ops.size false).getD j false = true → False := fun j hj => by
    rw [show (Array.replicate ops.size false).getD j false = false from congrFun (hrep ops.size) j] at hj
    cases hj
  refine wpIn_region_any hm (any_wide hdef hQ _ _ _ _ ?_)
  refine wpAny_of_relT (a0 := a) (C := fun w' => ∃ n, w' = someW C w n) (E := KeepT L) (Pf := pfT L) (D := dT D) hops hB' ?_ ?_ ?_ hs ?_ _ _ (fun _ => undef) _ _ (by simp) ?_ ?_ ?_ ?_ ⟨w.drew, (someW_of hd).symm⟩ ?_ ?_
  · intro k R hR vs vs' v w hd hr
    obtain ⟨f, -, rfl⟩ := Option.map_eq_some_iff.1 hR
    exact hr
  · intro k R hR
    obtain ⟨f, hf, rfl⟩ := Option.map_eq_some_iff.1 hR
    obtain ⟨j, hj⟩ := mem hf
    exact hinh _ hj
  · intro k R hR vs v w w' hr _ hE
    obtain ⟨f, hf, rfl⟩ := Option.map_eq_some_iff.1 hR
    obtain ⟨j, hj⟩ := mem hf
    exact hE _ hj v hr
  · refine wpRel_post (fun a' w' h' => ?_) _ h
    unfold wpOp
    rw [hot]
    have hw : Region.wanted ot (yielded ops a'.tmps) = true := by simp [Region.wanted, hg]
    simp only [hw, if_true]
    exact .inl h'
  · rw [hrep]
    unfold left
    rw [List.filter_eq_self.2 (by simp)]
    simp
  · intro j hj
    exact (hno j hj).elim
  · exact congrFun (hrep ops.size) l'.length
  · rw [hrep]
    generalize ops.size = n
    induction n with
    | zero => rfl
    | succ n ih => simpa [frameR] using ih
  · intro j hj
    exact (hno j hj).elim
  · intro j hj
    exact (hno j hj).elim
end
end Go.Proofs.YtmmbblfmhcegcaaGreat

namespace Go.Proofs.YtmmbblfmhcegcaaGreat
open Go.RowKit Go.Shelf

theorem findS_lt (l : List St) (ah st : Int) : findS l ah st < l.length ∧ -1 ≤ findS l ah st := by
  unfold findS
  cases h : l.findIdx? (isSt ah st) with
  | none => simp only; omega
  | some i =>
    obtain ⟨hi, -⟩ := List.findIdx?_eq_some_iff_getElem.1 h
    simp only
    omega
theorem goRow_succ (p : List Sp) (l : List St) (row : List Int) (k : Nat) : goRow p l row (k + 1) = goK p row (goRow p l row k) k := by simp [goRow, List.range_succ, List.foldl_append]

/-- What a round of the inner loop knows. -/
structure InnI (n0 B6 j : Nat) (Y1 : World) (win : Int) (p : List Sp) (L0 : List St) (row : List Int) (k : Nat) (sv : Value) (zs : List (St × Value)) (ds : List Nat) (W : World) : Prop where
  new : NewI n0 Y1 win (goRow p L0 row k).1 sv zs W
  box : Blk W B6 3 #[.int .i64 (goRow p L0 row k).2]
  ne : some B6 ≠ sv.ownBlock
  nes : ∀ x ∈ zs, some B6 ≠ x.2.ownBlock
  b6 : Y1.heap.size ≤ B6
  defs : DefOk W ds
  nd : ds.Nodup
  ge : ∀ D ∈ ds, Y1.heap.size ≤ D
  len : (goRow p L0 row k).1.length ≤ 20 * j + k
  lo : -1 ≤ (goRow p L0 row k).2
  hi : (goRow p L0 row k).2 < (goRow p L0 row k).1.length
  pos : 0 < k → 0 ≤ (goRow p L0 row k).2
theorem DefOk.below {W W' : World} {ds : List Nat} (h : DefOk W ds) (hb : Below W.heap.size W W') : DefOk W' ds := fun D hD => (hb.block D (h.lt D hD)).trans (h D hD)
section
variable {n0 B6 j k : Nat} {Y1 W W' X : World} {win : Int} {p : List Sp} {L0 : List St} {row : List Int} {sv : Value} {zs : List (St × Value)} {ds : List Nat}
theorem InnI.start (h : NewI n0 Y1 win L0 sv zs X) (hb : Below X.heap.size X W) (hB6 : X.heap.size ≤ B6) (hbox : Blk W B6 3 #[.int .i64 (-1)]) (hd : DefOk X ds) (hnd : ds.Nodup) (hge : ∀ D ∈ ds, Y1.heap.size ≤ D) (hl : L0.length ≤ 20 * j) :
    InnI n0 B6 j Y1 win p L0 row 0 sv zs ds W := by
  have hz := h.grow.size
  refine ⟨h.below hb, hbox, fun e => ?_, fun x hx e => ?_, by omega, hd.below hb, hnd, hge, hl, Int.le_refl _, ?_, fun h => by omega⟩
  · have := (World.ownsRow.lt h.row B6 e.symm).2
    omega
  · have := (OwI.lt (h.gs x hx) _ e.symm).2
    omega
  · show (-1 : Int) < (L0.length : Int)
    omega
theorem InnI.found (h : InnI n0 B6 j Y1 win p L0 row k sv zs ds W) (hn : n0 + 1 < Y1.heap.size) (hb : Below W.heap.size W W') {f : Int} (hf : findS (goRow p L0 row k).1 (goRow p L0 row k).2 (rowAt row k) = f) (h0 : 0 ≤ f) :
    InnI n0 B6 j Y1 win p L0 row (k + 1) sv zs ds (W'.setCell ⟨B6, 0, none⟩ (.int .i64 f)) := by
  have e : goRow p L0 row (k + 1) = ((goRow p L0 row k).1, f) := by rw [goRow_succ, goK, if_neg (by omega), hf]
  have hlt := findS_lt (goRow p L0 row k).1 (goRow p L0 row k).2 (rowAt row k)
  rw [hf] at hlt
  refine ⟨?_, ?_, h.ne, h.nes, h.b6, (h.defs.below hb).keeps (KeepsOthers.setCell _ _ _), h.nd, h.ge, ?_, ?_, ?_, fun _ => ?_⟩
  · rw [e]
    exact (h.new.below hb).set_ (p := ⟨B6, 0, none⟩) h.b6 hn h.ne h.nes _
  · rw [e]
    simpa using (h.box.below hb h.box.lt).set_ 0 (.int .i64 f)
  · have := h.len
    rw [e]
    simp only
    omega
  · rw [e]
    exact hlt.2
  · rw [e]
    exact hlt.1
  · rw [e]
    exact h0
theorem row_others {w w' : World} {base n size : Nat} {e : TypeId} {v : Value} {xs : List Value} (h : w.ownsRow base e size v n xs) (hg : w.grownBy w' v.ownBlock) : KeepsOthers w w' :=
  KeepsOthers.of_grownBy hg fun j o ej hj => by
    rcases h.2 with ⟨rfl, -⟩ | ⟨g, cap, cur, rfl, -, hgb, -⟩
    · simp [Value.ownBlock] at ej
    · obtain rfl : g = j := by simpa [Value.ownBlock] using ej
      rw [hgb] at hj; cases hj; rfl
theorem InnI.push {W5 w6 : World} {gv sv' : Value} {o : Obj} {ds' : List Nat} (h : InnI n0 B6 j Y1 win p L0 row k sv zs ds W) (hn : n0 + 1 < Y1.heap.size) (hb : Below W.heap.size W W5)
    (hf : findS (goRow p L0 row k).1 (goRow p L0 row k).2 (rowAt row k) < 0) (hgv : OwI W5 W.heap.size gv (newSt p row k (goRow p L0 row k).2).guards)
    (hrow : w6.ownsRow Y1.heap.size 41 6 sv' (zs.length + 1) (zs.flatMap stc ++ stc (newSt p row k (goRow p L0 row k).2, gv))) (hg : (W5.alloc o).grownBy w6 sv.ownBlock) (hat : sv'.ownBlock = sv.ownBlock ∨ sv'.ownBlock = some (W5.alloc o).heap.size)
    (hd : DefOk W5 ds') (hnd : ds'.Nodup) (hge : ∀ D ∈ ds', Y1.heap.size ≤ D) :
    InnI n0 B6 j Y1 win p L0 row (k + 1) sv' (zs ++ [(newSt p row k (goRow p L0 row k).2, gv)]) ds' ((w6.setCell ⟨n0 + 1, 0, none⟩ sv').setCell ⟨B6, 0, none⟩ (.int .i64 (goRow p L0 row k).1.length)) := by
  have e : goRow p L0 row (k + 1) = ((goRow p L0 row k).1 ++ [newSt p row k (goRow p L0 row k).2], ((goRow p L0 row k).1.length : Int)) := by rw [goRow_succ, goK, if_pos hf]
  have hz := h.new.grow.size
  have hz5 := hb.size
  have hb6 := h.box.lt
  have h5 := (h.new.below hb).alloc o
  have hne' : some B6 ≠ sv'.ownBlock := by
    rcases hat with e1 | e1
    · rw [e1]; exact h.ne
    · rw [e1]
      intro e2
      have := Option.some.inj e2
      simp at this
      omega
  refine ⟨?_, ?_, hne', fun x hx => ?_, h.b6, ?_, hnd, hge, ?_, ?_, ?_, fun _ => ?_⟩
  · rw [e]
    refine NewI.set_ (NewI.push (z := (newSt p row k (goRow p L0 row k).2, gv)) h5 hn hrow hg ((hgv.alloc o).mono hz)) (p := ⟨B6, 0, none⟩) h.b6 hn hne' (fun x hx => ?_) _
    rcases List.mem_append.1 hx with hm | hm
    · exact h.nes x hm
    · rw [List.mem_singleton.1 hm]
      intro e2
      have h9 : W.heap.size ≤ B6 := (OwI.lt hgv _ e2.symm).1
      omega
  · rw [e]
    have hbx : Blk w6 B6 3 #[.int .i64 (goRow p L0 row k).2] := (hg.block B6 (by simp; omega) h.ne).trans ((h.box.below hb hb6).alloc o)
    simpa using (hbx.far (p := ⟨n0 + 1, 0, none⟩) (by have := h.b6; simp; omega) sv').set_ 0 (.int .i64 (goRow p L0 row k).1.length)
  · rcases List.mem_append.1 hx with hm | hm
    · exact h.nes x hm
    · rw [List.mem_singleton.1 hm]
      intro e2
      have := (OwI.lt hgv _ e2.symm).1
      omega
  · exact (((hd.keeps (KeepsOthers.alloc _ o)).keeps (row_others h5.row hg)).keeps (KeepsOthers.setCell _ _ _)).keeps (KeepsOthers.setCell _ _ _)
  · have := h.len
    rw [e]
    simp
    omega
  · rw [e]
    simp only
    omega
  · rw [e]
    simp
    omega
  · rw [e]
    simp only
    omega
end

section
variable {F : Fence} {m : Nat} {ops : Array Oper} {rest : List Oper} {o : Oper} {a : Act} {Q : Exit → Act → World → Prop} {w : World} {base g : Nat} {v : Value} {zs : List (St × Value)}
/-- 'append(s, x)' of one state, in a fence. -/
theorem appStIn (x : St × Value) (s y : Operand) (hgd : o.guard = none) (ho : o.op = .call { callee := .builtin .append, args := #[s, y], argTypes := #[27, 27] })
    (hs : a.eval s = v) (hy : a.eval y = .slice (some ⟨g, 0, none⟩) 1 1) (hown : OwS w base v zs) (hc : Blk w g 41 (stc x).toArray) (hx : x.2.oneCell' = true) (hl : zs.length < 900000) (hb : base ≤ w.heap.size)
    (h : ∀ v' w', w'.ownsRow base 41 6 v' (zs.length + 1) (zs.flatMap stc ++ stc x) → w.grownBy w' v.ownBlock → (v'.ownBlock = v.ownBlock ∨ v'.ownBlock = some w.heap.size) → wpListIn F m Tryz.prog ops Q rest (a.put o.dst v') w') : wpListIn F m Tryz.prog ops Q (o :: rest) a w := by
  obtain ⟨i0, hi, hz0, hz1, hz2⟩ := info_parts state_info
  obtain ⟨v', w', hrun, r1, r2, -, r4⟩ := run_append_own_at (P := Tryz.prog) w base 27 o.type 41 i0 _ 6 64 Tryz.underlying27 hi hz0 hz1 hz2 rfl (by decide) v zs.length _ hown ⟨g, 0, none⟩ 1 1 (stc x) rfl (blk_news hc)
    (by intro u hu; simp [stc] at hu; rcases hu with rfl | rfl | rfl | rfl | rfl | rfl <;> first | rfl | exact hx) (by unfold maxLen; omega) (by omega) hb
  refine wpListIn_plain hgd fun K hK' => ?_
  unfold Oper.wpIn
  refine ⟨?_, ?_⟩
  · simp [Oper.about, ho, resolve, Target.leads, Sem.run_pure]
  · rw [Oper.semAt_plain F _ _ (by rw [ho]; intro c hc'; cases hc')]
    simp [execOp, ho, resolve, invoke, builtin, hs, hy, hrun, Result.andThen]
    exact hK' _ _ (h v' w' r1 r2 r4)
end

/-- What 'negatives(..)' gives. -/
def negF (G : Nat) (sv : Value) (win f t : Int) : Fact :=
  (fun v => ∃ b : Nat, v = .func (.func 39) #[] #[.pointer (some ⟨b + 1, 0, none⟩), .pointer (some ⟨b + 1 + 1, 0, none⟩), .pointer (some ⟨b, 0, none⟩)],
   fun v x => ∃ b : Nat, v = .func (.func 39) #[] #[.pointer (some ⟨b + 1, 0, none⟩), .pointer (some ⟨b + 1 + 1, 0, none⟩), .pointer (some ⟨b, 0, none⟩)] ∧ G ≤ b ∧ Blk x b 24 #[sv, .int .i64 win] ∧ Blk x (b + 1) 3 #[.int .i64 f] ∧ Blk x (b + 1 + 1) 3 #[.int .i64 t])
theorem negF_ok (G : Nat) (sv : Value) (win f t : Int) : FactOk (negF G sv win f t) := ⟨⟨_, 0, rfl⟩, fun _ _ _ ⟨b, h1, h2, h3, h4, h5⟩ hb => ⟨b, h1, h2, h3.below hb h3.lt, h4.below hb h4.lt, h5.below hb h5.lt⟩⟩
theorem neg_eq {b b' : Nat} (h : (Value.func (.func 39) #[] #[.pointer (some ⟨b + 1, 0, none⟩), .pointer (some ⟨b + 1 + 1, 0, none⟩), .pointer (some ⟨b, 0, none⟩)]) = .func (.func 39) #[] #[.pointer (some ⟨b' + 1, 0, none⟩), .pointer (some ⟨b' + 1 + 1, 0, none⟩), .pointer (some ⟨b', 0, none⟩)]) : b = b' := by
  simpa using h
theorem neg_call {G : Nat} {x : World} (hG : G ≤ x.heap.size) (win : Int) (A : Option Addr) (n c : Nat) (f t : Int) : Calls Tryz.prog 26 #[ptV (.slice A n c) win, .int .i64 f, .int .i64 t] x fun e w' =>
    (∃ v, e = .returned v ∧ (negF G (.slice A n c) win f t).1 v ∧ (negF G (.slice A n c) win f t).2 v w') ∧ Below x.heap.size x w' := by
  refine (negatives_any A n c win f t x).mono ?_
  rintro e w' ⟨rfl, rfl⟩
  refine ⟨⟨_, rfl, ⟨_, rfl⟩, _, rfl, hG, ?_, ?_, ?_⟩, (((Below.refl _ _).alloc (Nat.le_refl _) _).alloc (by simp) _).alloc (by simp; omega) _⟩
  · exact ((Blk.new_ rfl _ _).alloc _).alloc _
  · exact (Blk.new_ (by simp) _ _).alloc _
  · exact Blk.new_ (by simp) _ _
/-- A variable that the region has made. -/
def ptrF (t : TypeId) (G : Nat) (cs : Array Value) : Fact := (fun v => ∃ g, v = .pointer (some ⟨g, 0, none⟩), fun v w => ∃ g, v = .pointer (some ⟨g, 0, none⟩) ∧ G ≤ g ∧ Blk w g t cs)
theorem ptrF_ok (t : TypeId) (G : Nat) (cs : Array Value) : FactOk (ptrF t G cs) := ⟨⟨_, 0, rfl⟩, fun _ _ _ ⟨g, h1, h2, h3⟩ hb => ⟨g, h1, h2, h3.below hb h3.lt⟩⟩
theorem one_ok {i : Nat} {f : Fact} (h : FactOk f) : ∀ q ∈ [(i, f)], FactOk q.2 := fun q hq => by
  rw [List.mem_singleton.1 hq]
  exact h
theorem st_stored {W3 : World} {gs : Nat} {z0 z1 z2 z3 z4 z5 : Value} (h : Blk W3 gs 41 #[z0, z1, z2, z3, z4, z5]) (a b c d e f : Value) :
    Blk ((((((W3.setCell ⟨gs, 0, none⟩ a).setCell ⟨gs, 1, none⟩ b).setCell ⟨gs, 2, none⟩ c).setCell ⟨gs, 3, none⟩ d).setCell ⟨gs, 4, none⟩ e).setCell ⟨gs, 5, none⟩ f) gs 41 #[a, b, c, d, e, f] := by
  simpa using (((((h.set_ 0 a).set_ 1 b).set_ 2 c).set_ 3 d).set_ 4 e).set_ 5 f
theorem st_below {n : Nat} {W W3 : World} {gs : Nat} (h : Below n W W3) (hn : n ≤ gs) (a b c d e f : Value) :
    Below n W ((((((W3.setCell ⟨gs, 0, none⟩ a).setCell ⟨gs, 1, none⟩ b).setCell ⟨gs, 2, none⟩ c).setCell ⟨gs, 3, none⟩ d).setCell ⟨gs, 4, none⟩ e).setCell ⟨gs, 5, none⟩ f) :=
  (((((h.setCell (p := ⟨gs, 0, none⟩) hn a).setCell (p := ⟨gs, 1, none⟩) hn b).setCell (p := ⟨gs, 2, none⟩) hn c).setCell (p := ⟨gs, 3, none⟩) hn d).setCell (p := ⟨gs, 4, none⟩) hn e).setCell (p := ⟨gs, 5, none⟩) hn f
theorem Blk.c6 {w : World} {g : Nat} {t : TypeId} {x0 x1 x2 x3 x4 x5 : Value} (h : Blk w g t #[x0, x1, x2, x3, x4, x5]) : w.cell? ⟨g, 0, none⟩ = some x0 ∧ w.cell? ⟨g, 1, none⟩ = some x1 ∧ w.cell? ⟨g, 2, none⟩ = some x2 ∧ w.cell? ⟨g, 3, none⟩ = some x3 ∧ w.cell? ⟨g, 4, none⟩ = some x4 ∧ w.cell? ⟨g, 5, none⟩ = some x5 := ⟨h.cell 0, h.cell 1, h.cell 2, h.cell 3, h.cell 4, h.cell 5⟩
theorem blk_at {w : World} {g : Nat} {t : TypeId} {cur : Array Value} (h : w.heap[g]? = some (.cells cur t (0, 0))) (i : Nat) (hi : i < cur.size) : (∃ u, w.cell? ⟨g, i, none⟩ = some u) ∧ w.frozen? ⟨g, i, none⟩ = false := by
  have hb : Blk w g t cur := h
  exact ⟨⟨cur[i], by rw [hb.cell]; exact Array.getElem?_eq_getElem hi⟩, hb.frozen i⟩
theorem own_cells {w w' : World} {base n size : Nat} {e : TypeId} {v : Value} {xs : List Value} (h : w.ownsRow base e size v n xs) (k : ∀ (g : Nat) (o : Obj), w.heap[g]? = some o → o.isCells = true → w'.heap[g]? = some o) : w'.ownsRow base e size v n xs := by
  refine ⟨h.1, ?_⟩
  rcases h.2 with h2 | ⟨g, cap, cur, hv, hg, hh, r⟩
  · exact .inl h2
  · exact .inr ⟨g, cap, cur, hv, hg, k _ _ hh rfl, r⟩
theorem posLast_eq (p : List Sp) (h : positive p ≠ []) : (positive p).getLast h = (posLast p : Int) := by
  have hm := List.getLast_mem h
  obtain ⟨k, s, e, -, -⟩ := posFrom_mem hm
  have h2 : (positive p).getLastD 0 = (positive p).getLast h := by
    rw [List.getLastD_eq_getLast?, List.getLast?_eq_some_getLast h]
    rfl
  rw [posLast, h2, e]
  simp
theorem grownBy_set {W X : World} {g : Nat} (h : W.grownBy X (some g)) (i : Nat) (u : Value) : W.grownBy (X.setCell ⟨g, i, none⟩ u) (some g) :=
  ⟨h.os, h.tape, h.output, by simpa [World.setCell] using h.size, fun k hk hne => (Below.heap_setCell _ _ _ _ (fun e => hne (by rw [e]))).trans (h.block k hk hne)⟩
theorem auto_stored {W3 : World} {g : Nat} {z0 z1 z2 : Value} (h : Blk W3 g 30 #[z0, z1, z2]) (a b c : Value) :
    Blk (((W3.setCell ⟨g, 0, none⟩ a).setCell ⟨g, 1, none⟩ b).setCell ⟨g, 2, none⟩ c) g 30 #[a, b, c] := by
  simpa using ((h.set_ 0 a).set_ 1 b).set_ 2 c
/-- All that was there stays. -/
def belC (W : World) (x : World) : Prop := Below W.heap.size W x
theorem belC_drew (W : World) : belC W W.drew := (Below.refl _ _).drew
theorem belC_refl (W : World) : belC W W := Below.refl _ _
theorem belC_below {W : World} : ∀ w w', belC W w → Below w.heap.size w w' → belC W w' := fun _ _ h hb => h.trans (hb.mono h.size)
theorem belC_some (W : World) (n : World) : Below W.heap.size W (someW (belC W) W n) := someW_is n (belC_refl W)
theorem belC_cell (W : World) (n : World) {b : Nat} (o : Nat) (hb : b < W.heap.size) : (someW (belC W) W n).cell? ⟨b, o, none⟩ = W.cell? ⟨b, o, none⟩ := (belC_some W n).cell (p := ⟨b, o, none⟩) hb
theorem belC_frozen (W : World) (n : World) {b : Nat} (o : Nat) (hb : b < W.heap.size) : (someW (belC W) W n).frozen? ⟨b, o, none⟩ = W.frozen? ⟨b, o, none⟩ := (belC_some W n).frozen (p := ⟨b, o, none⟩) hb
end Go.Proofs.YtmmbblfmhcegcaaGreat
