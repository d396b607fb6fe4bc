/- Several texts of one proof: The row of a state: the walks of nfa.way and nfa.Row. | A loop over an iterator whose values lie in memory, and whose body never leaves early: what the iterator owes, and the law for the loop. | A region that draws its order and ends in one operation that waits for all others: the others walked in the order of the text, then that one. -/
import Derived.Test.YtmmbblfmhcegcaaGreatM04
import Derived.ScopeJumps
import Derived.Test.YtmmbblfmhcegcaaGreatM01
import Derived.Test.YtmmbblfmhcegcaaGreatM02

namespace Go.Proofs.YtmmbblfmhcegcaaGreat
open Go.RowKit Go.Shelf Go.Sort
attribute [local go_sem] grown_cell grown_frozen

/-- A scope that begins at the label to which it jumps back. -/
theorem wp_scope_back {P : Program} {a : Act} {w : World} {Q : Exit → Act → World → Prop} {Y : Code} (l : Nat) (J : Act → World → Prop) (μ : Act → World → Nat) (hf : findLabel (.seq (.label l) Y) l = some (.seq .skip Y))
    (h0 : J a w) (pass : ∀ a w, J a w → Y.wp P (Exit.jump l (fun a' w' => J a' w' ∧ μ a' w' < μ a w) Q) a w) : (Code.scope (.seq (.label l) Y)).wp P Q a w := by
  refine wp_scope_jumps l J μ hf (wp_seq (wp_label (wp_mono (pass a w h0) ?_))) (fun a w h => wp_seq (wp_skip (pass a w h)))
  intro e a' w' h
  cases e <;> first | exact ⟨h.1, h.2.1⟩ | exact h

theorem reverse_own {w : World} {base : Nat} {v : Value} {l : List Int} (h : OwI w base v l) (hl : l.length < 1000000) :
    Calls Tryz.prog 42 #[v] w fun e w' => e = .returned (.tuple #[]) ∧ OwI w' base v l.reverse ∧ w.grownBy w' v.ownBlock := by
  rcases h.2 with ⟨h2, h3⟩ | ⟨g, cap, cur, hv, hg, hh, hn, hm, hs, ht⟩
  · obtain rfl := List.eq_nil_of_length_eq_zero h3
    subst h2
    refine (Tryz.slices_Reverse_int_empty none 0 w).mono ?_
    rintro e w' ⟨rfl, rfl⟩
    exact ⟨rfl, OwI.nil _ _, World.grownBy.refl _ _⟩
  · subst hv
    have hH := holds_of_blockI (ss := l) hh (by simpa using ht)
    refine (Tryz.slices_Reverse_int g 0 cap l w hH (by omega)).mono ?_
    rintro e w' ⟨rfl, n, rfl⟩
    have hg0 := grow_empty (putRow (Value.int .i64) (Sort.ahead w n) g 0 l.reverse.toArray)
    refine ⟨rfl, ?_, by have := grownBy_sortedI (w := w) (g := g) (n := n) (os := #[]) l.reverse.toArray; rwa [hg0] at this⟩
    have := ownsRow_sortedI (n := n) (os := #[]) (ts := l.reverse) (ss := l) (by simp) hg hh hn hm hs
    rw [hg0] at this
    simpa [OwI] using this

/-- The steps from a state on ahead, n of them at most. -/
def wayF (l : List St) : Nat → Int → List Int
  | 0, _ => []
  | n + 1, at_ => if at_ < 0 then [] else match l[at_.toNat]? with | some s => s.step :: wayF l n s.ahead | none => []
def wayL (l : List St) (at_ : Int) : List Int := (wayF l (at_ + 1).toNat at_).reverse
theorem wayF_neg (l : List St) (n : Nat) {at_ : Int} (h : at_ < 0) : wayF l n at_ = [] := by
  cases n <;> simp [wayF, h]
theorem autoR_at {l : List St} (h : autoR l = true) {k : Nat} {s : St} (hs : l[k]? = some s) : okAt l k s = true := by
  have hi := (List.getElem?_eq_some_iff.1 hs).1
  simp only [autoR, List.all_eq_true, List.mem_range] at h
  have := h k hi
  rwa [hs] at this
theorem okAt_ahead {l : List St} {k : Nat} {s : St} (h : okAt l k s = true) : -1 ≤ s.ahead ∧ s.ahead < k := by
  simp [okAt] at h
  omega
theorem wayF_eq {l : List St} (h : autoR l = true) : ∀ (n m : Nat) (at_ : Int), (at_ + 1).toNat ≤ n → (at_ + 1).toNat ≤ m → wayF l n at_ = wayF l m at_ := by
  intro n
  induction n with
  | zero => intro m at_ hn _; rw [wayF_neg l 0 (by omega), wayF_neg l m (by omega)]
  | succ n ih =>
    intro m at_ hn hm
    by_cases h0 : at_ < 0
    · rw [wayF_neg _ _ h0, wayF_neg _ _ h0]
    · obtain ⟨k, rfl⟩ : ∃ k : Nat, at_ = k := ⟨at_.toNat, by omega⟩
      obtain ⟨m, rfl⟩ : ∃ j, m = j + 1 := ⟨m - 1, by omega⟩
      simp only [wayF, h0, if_false, Int.toNat_natCast]
      cases hs : l[k]? with
      | none => rfl
      | some s =>
        have := okAt_ahead (autoR_at h hs)
        simp only
        rw [ih m s.ahead (by omega) (by omega)]
theorem wayF_len (l : List St) : ∀ (n : Nat) (at_ : Int), (wayF l n at_).length ≤ n := by
  intro n
  induction n with
  | zero => intro at_; simp [wayF]
  | succ n ih =>
    intro at_
    simp only [wayF]
    split
    · simp
    · split
      · simpa using ih _
      · simp

set_option maxRecDepth 100000 in
set_option maxHeartbeats 4000000 in
theorem way_any (l : List St) (sv av : Value) (win : Int) (at_ : Int) (w : World) (h : RdT w w.heap.size sv l) (ha : ∃ A n c, av = .slice A n c) (hr : autoR l = true) (h0 : -1 ≤ at_) (h1 : at_ < l.length) (hlen : l.length ≤ 900000) :
    Calls Tryz.prog 29 #[atV sv av win, .int .i64 at_] w fun e w' => (∃ v, e = .returned v ∧ OwI w' w.heap.size v (wayL l at_)) ∧ Below w.heap.size w w' := by
  obtain ⟨Av, nv, cv, rfl⟩ := ha
  obtain ⟨A, cap, b, off, rfl, h2, h3, h4, h5⟩ := h
  replace hr := hide hr
  go_enter Tryz.func29, Tryz.ntmps29
  go_wp2
  refine wp_scope_back 0 (fun a' w' => ∃ (i : Int) (v : Value) (acc : List Int) (u5 u6 u7 u8 u9 u10 u11 u12 u13 u14 u15 u16 u17 u18 u19 u20 u21 u22 u23 u24 : Value), a' = { tmps := #[atV (.slice A l.length cap) (.slice Av nv cv) win, .int .i64 i, .pointer (some ⟨w.heap.size, 0, none⟩), undef, v, u5, u6, u7, u8, u9, u10, u11, u12, u13, u14, u15, u16, u17, u18, u19, u20, u21, u22, u23, u24], defers := [] } ∧
    -1 ≤ i ∧ i < l.length ∧ OwI w' (w.heap.size + 1) v acc ∧ Hid (acc ++ wayF l (i + 1).toNat i = wayF l (at_ + 1).toNat at_) ∧ Below (w.heap.size + 1) (w.alloc (.cells #[.slice A l.length cap, .slice Av nv cv, .int .i64 win] 30)) w') (fun a' _ => (intOf (a'.tmps.getD 1 undef) + 1).toNat) rfl ?_ ?_
  · exact ⟨at_, _, [], _, _, _, _, _, _, _, _, _, _, _, _, _, _, _, _, _, _, _, _, rfl, h0, h1, OwI.nil _ _, hide rfl, Below.refl _ _⟩
  · rintro a' wr ⟨i, v, acc, u5, u6, u7, u8, u9, u10, u11, u12, u13, u14, u15, u16, u17, u18, u19, u20, u21, u22, u23, u24, rfl, hi0, hi1, hown, heq, hB⟩
    have hbx := (Blk.new w 30 #[.slice A l.length cap, .slice Av nv cv, .int .i64 win]).below hB (Nat.lt_succ_self _)
    have hBw := hide ((((Below.refl w.heap.size w).alloc (Nat.le_refl _) (.cells #[.slice A l.length cap, .slice Av nv cv, .int .i64 win] 30))).trans (hB.mono (by omega)))
    have hz := hB.size
    simp at hz
    by_cases hneg : i < 0
    · have hfin : Hid (acc.reverse = wayL l at_) := hide (by rw [wayL, ← heq.out, wayF_neg l _ hneg, List.append_nil])
      have hal := hide (show acc.length < 1000000 by
        have := congrArg List.length heq.out
        have := wayF_len l (at_ + 1).toNat at_
        simp at *
        omega)
      obtain ⟨Ar, cr, rfl⟩ := hown.form
      clear h4 h5
      go_wp2_with (go_at_call 42; (refine (reverse_own hown hal.out).mono ?_); rintro e w1 ⟨rfl, hown1, hg1⟩)
      simp only [Exit.jump]
      go_ret
      exact ⟨⟨_, rfl, by rw [← hfin.out]; exact hown1.mono (by omega)⟩, hBw.out.grown hg1 hBw.out.size (fun j e => by have := (hown.lt j e).1; omega)⟩
    · obtain ⟨k, rfl⟩ : ∃ k : Nat, i = k := ⟨i.toNat, by omega⟩
      obtain ⟨s, hs⟩ : ∃ s, l[k]? = some s := ⟨_, List.getElem?_eq_getElem (by omega)⟩
      obtain ⟨rfl, hb⟩ := h4 (by omega)
      obtain ⟨vs, ⟨gv, rfl, hgv⟩, hat⟩ := h5 k s hs
      obtain ⟨c0, c1, c2, c3, c4, c5⟩ := (hat.below hBw.out hb).c6
      have hah := okAt_ahead (autoR_at hr.out hs)
      have heq2 : Hid ((acc ++ [s.step]) ++ wayF l (s.ahead + 1).toNat s.ahead = wayF l (at_ + 1).toNat at_) := hide (by
        rw [← heq.out, show ((k : Int) + 1).toNat = k + 1 by omega]
        simp only [wayF, hneg, if_false, Int.toNat_natCast, hs]
        rw [wayF_eq hr.out k (s.ahead + 1).toNat s.ahead (by omega) (Nat.le_refl _)]
        simp)
      have hal : acc.length ≤ 900000 := by
        have := congrArg List.length heq.out
        have := wayF_len l (at_ + 1).toNat at_
        simp at *
        omega
      clear hat hgv h4 h5
      obtain ⟨st, pl, sr, gs, ah, la⟩ := s
      simp only at c0 c1 c2 c3 c4 c5 hah heq2
      have hki : (k : Int) < l.length := by omega
      have hcells := hide (fun w2 (hB2 : Below (w.heap.size + 1) (w.alloc (.cells #[.slice (some ⟨b, off, none⟩) l.length cap, .slice Av nv cv, .int .i64 win] 30)) w2) => show w2.cell? ⟨w.heap.size, 0, none⟩ = some (.slice (some ⟨b, off, none⟩) l.length cap) ∧ w2.cell? ⟨b, off + k * 6 + 4, none⟩ = some (.int .i64 ah) from
        ⟨((Blk.new w 30 #[.slice (some ⟨b, off, none⟩) l.length cap, .slice Av nv cv, .int .i64 win]).below hB2 (Nat.lt_succ_self _)).cell 0, by rw [hB2.cell (p := ⟨b, _, none⟩) (by show b < _; omega), ← c4, hB.cell (p := ⟨b, _, none⟩) (by show b < _; omega)]⟩)
      have x0 := hbx.cell 0
      simp at x0
      clear hneg hi0 hi1
      have hge : (0 : Int) ≤ (k : Int) := by omega
      go_wp2_with (at_builtin; refine app1 (.tmp 7) (.tmp 14) rfl rfl rfl rfl (hown.alloc _) (by simp; rfl) (by omega) (by simp; omega) ?_; intro v1 w2 hown1 hg1; have hB2 := (hB.alloc hz _).grown hg1 (by simp; omega) (fun j e => by have := (hown.lt j e).1; omega); obtain ⟨y0, y4⟩ := hcells.out w2 hB2)
      go_step3
      exact ⟨rfl, ⟨ah, v1, _, _, _, _, _, _, _, _, _, _, _, _, _, _, _, _, _, _, _, _, _, rfl, hah.1, by omega, hown1, heq2, hB2⟩, by simp [intOf]; omega⟩

/-- The row of a state, or none. -/
def stRow (l : List St) (at_ : Int) : List Int := if 0 ≤ at_ ∧ at_ < l.length ∧ autoR l = true then wayL l at_ else []
set_option maxRecDepth 100000 in
set_option maxHeartbeats 4000000 in
theorem nrow_any (l : List St) (sv av : Value) (win : Int) (at_ : Int) (w : World) (h : RdT w w.heap.size sv l) (ha : ∃ A n c, av = .slice A n c) (hsm : Small l) (hlen : l.length ≤ 900000) :
    Calls Tryz.prog 13 #[atV sv av win, .int .i64 at_] w fun e w' => (∃ v, e = .returned v ∧ OwI w' w.heap.size v (stRow l at_)) ∧ Below w.heap.size w w' := by
  have hr := hide fun w1 (hb : Below w.heap.size w w1) => nright_any l sv av win w1 (h.below hb hb.size) ha hsm
  have hw := hide fun (h1 : autoR l = true) (h2 : -1 ≤ at_) (h3 : at_ < l.length) w1 (hb : Below w.heap.size w w1) => way_any l sv av win at_ w1 (h.below hb hb.size) ha h1 h2 h3 hlen
  obtain ⟨Av, nv, cv, rfl⟩ := ha
  obtain ⟨A, cap, b, off, rfl, -⟩ := h
  have hX := hide ((Below.refl w.heap.size w).alloc (Nat.le_refl _) (.cells #[.slice A l.length cap, .slice Av nv cv, .int .i64 win] 30))
  by_cases t1 : at_ < 0
  · rw [show stRow l at_ = [] by simp [stRow]; intro h; omega]
    go_enter Tryz.func13, Tryz.ntmps13
    go_wp2
    go_ret
    exact ⟨⟨_, rfl, OwI.nil _ _⟩, hX.out⟩
  by_cases t2 : (l.length : Int) ≤ at_
  · rw [show stRow l at_ = [] by simp [stRow]; intro h h2; omega]
    replace t1 : 0 ≤ at_ := by omega
    go_enter Tryz.func13, Tryz.ntmps13
    go_wp2
    go_ret
    exact ⟨⟨_, rfl, OwI.nil _ _⟩, hX.out⟩
  replace t1 : 0 ≤ at_ := by omega
  replace t2 : at_ < (l.length : Int) := by omega
  cases hm : autoR l with
  | false =>
    rw [show stRow l at_ = [] by simp [stRow, hm]]
    rw [hm] at hr
    clear hw
    go_enter Tryz.func13, Tryz.ntmps13
    go_wp2_with (go_at_call 18; (with_reducible refine (stayf (G := w.heap.size + 1) (hr.out _ hX.out) (by simp)).mono ?_); rintro e w1 ⟨rfl, hc1, hf1, hz1, hB1⟩)
    go_ret
    exact ⟨⟨_, rfl, OwI.nil _ _⟩, hX.out.trans (hB1.out.mono (by omega))⟩
  | true =>
    rw [show stRow l at_ = wayL l at_ by simp [stRow, hm]; intro h; omega]
    rw [hm] at hr
    replace hw := hide (hw.out hm (by omega) t2)
    go_enter Tryz.func13, Tryz.ntmps13
    go_wp2_with (first | (go_at_call 18; (with_reducible refine (stayf (G := w.heap.size + 1) (hr.out _ hX.out) (by simp)).mono ?_); rintro e w1 ⟨rfl, hc1, hf1, hz1, hB1⟩; have hB1w := hide (hX.out.trans (hB1.out.mono (Nat.le_succ _)))) | (go_at_call 29; (with_reducible refine (hw.out _ hB1w.out).mono ?_); rintro e w2 ⟨⟨v2, rfl, hown⟩, hB2⟩))
    go_ret
    exact ⟨⟨_, rfl, hown.mono hB1w.out.size⟩, hB1w.out.trans (hB2.mono hB1w.out.size)⟩
end Go.Proofs.YtmmbblfmhcegcaaGreat

namespace Go.Proofs.YtmmbblfmhcegcaaGreat
open Go.RowKit Go.Shelf

theorem yield_any {m : Nat} (m' : Nat) {P : Program} {l : Nat} {args : Array Value} {W : World} {R : Ending → World → Prop} (h : YieldAt Fence.wide m P l args W R) : YieldAt Fence.wide m' P l args W R := by
  obtain ⟨fn, tmps, assign, body, hy, h1, h2⟩ := h
  exact ⟨fn, tmps, assign, body, hy, h1, fun c cs _ => h2 c cs (fun d h => by cases h)⟩
theorem yield_round {m : Nat} (k : Nat) {P : Program} {l : Nat} {args : Array Value} {W : World} {R : Ending → World → Prop} (h : YieldAt Fence.wide m P l args W R) : YieldAt (Fence.wide.inRound k) m P l args W R := h

/-- What a round of the loop l owes the iterator: it goes on, and has kept what Kp says. -/
def RoundG {β : Type} (P : Program) (l : Nat) (Rd : β → Value → World → Prop) (Kp : World → World → Prop) (J : List β → World → Prop) (xs : List β) (B : Nat) : Prop :=
  ∀ pre x v V, pre ++ [x] <+: xs → J pre V → Rd x v V → B ≤ V.heap.size → YieldAt Fence.wide 1 P l #[v] V fun e V' => e = .returned (.bool true) ∧ J (pre ++ [x]) V' ∧ Kp V V' ∧ KeepsFrom B V V'
/-- The iterator gives the elements xs, each as a value of which Rd tells what it is. -/
def ItG {β : Type} (P : Program) (gf : Nat) (lb : Array Value) (Rd : β → Value → World → Prop) (Kp : World → World → Prop) (xs : List β) (w : World) : Prop :=
  ∀ (l : Nat) (J : List β → World → Prop) (W : World), Below w.heap.size w W → OwnFrom W.heap.size J → RoundG P l Rd Kp J xs W.heap.size → J [] W →
    Calls P gf (#[.func (.yield l) #[] #[]] ++ lb) W fun e W' => (∃ v, e = .returned v) ∧ J xs W'

theorem rf_it {β : Type} {P : Program} {g : Operand} {q : Tmp} {assign body : Code} {Q : Exit → Act → World → Prop} {a : Act} {w w0 : World} {gf : Nat} {lb : Array Value}
    (hg : a.eval g = .func (.func gf) #[] lb) (eg : ∀ args w, (callFunc gf args).run P w = .ok (.enter gf args) w)
    {Rd : β → Value → World → Prop} {Kp : World → World → Prop} {xs : List β} (hit : ItG P gf lb Rd Kp xs w0) (hb0 : Below w0.heap.size w0 w)
    (hKt : ∀ {A B C : World}, Kp A B → Kp B C → Kp A C) (hKb : ∀ (W : World) (l : Nat) (o o' : Obj), w.heap.size ≤ l → W.heap[l]? = some o → o.isCells = false → Kp W (W.putObj l o'))
    (hRd : ∀ x v, OwnFrom w.heap.size (fun (_ : Unit) W => Rd x v W)) (I : List β → World → Prop) (hI : OwnFrom w.heap.size I) (h0 : I [] w) (a₁ : Value → Act)
    (hassign : ∀ (l : Nat) (v : Value) (W : World) (K : Act → World → Prop), K (a₁ v) W → assign.wpIn (Fence.wide.inRound l) 1 P (Exit.then K (fun _ _ _ => False)) { tmps := a.tmps.setIfInBounds q v, defers := [] } W)
    (hbody : ∀ (l : Nat) (pre : List β) (x : β) (v : Value) (W : World), w.heap.size ≤ l → pre ++ [x] <+: xs → I pre W → Rd x v W → w.heap.size ≤ W.heap.size →
      body.wpIn (Fence.wide.inRound l) 1 P (fun e _ W' => e = .normal ∧ KeepsFrom w.heap.size W W' ∧ Kp W W' ∧ I (pre ++ [x]) W') (a₁ v) W)
    (hdone : ∀ (D : Nat) (W : World), w.heap.size ≤ D → I xs W → W.heap[D]? = some (.deferred (some [])) → Q .normal { a with defers := { target := .collected D, args := #[] } :: a.defers } W) :
    (Code.rangeFunc g #[q] assign body).wpIn Fence.wide 3 P Q a w := by
  refine wpIn_rangeFunc ?_
  intro fn hfn
  obtain ⟨rec, hrec⟩ : ∃ rec : LoopState → Option Code → Loop, rec = fun st pe => { state := st, pending := pe, fn, tmps := a.tmps, params := #[q], assign, body, defers := w.heap.size } := ⟨_, rfl⟩
  obtain ⟨W1, hW1⟩ : ∃ W1, (w.alloc (.deferred (some []))).alloc (.loop (rec .ready none)) = W1 := ⟨_, rfl⟩
  have hz1 : W1.heap.size = w.heap.size + 2 := by rw [← hW1]; simp
  have hL1 : W1.heap[w.heap.size + 1]? = some (.loop (rec .ready none)) := by
    rw [← hW1]
    have := World.alloc_heap_new (w.alloc (.deferred (some []))) (.loop (rec .ready none))
    rwa [World.size_alloc] at this
  have hD1 : W1.heap[w.heap.size]? = some (.deferred (some [])) := by
    rw [← hW1]
    exact (Below.heap_alloc _ _ _ (by simp)).trans (World.alloc_heap_new w _)
  have hI1 : I [] W1 := by rw [← hW1]; exact hI.alloc _ (hI.alloc _ h0)
  have hb1 : Below w0.heap.size w0 W1 := by
    rw [← hW1]
    exact hb0.trans ((((Below.refl _ w).alloc (Nat.le_refl _) _).alloc (by simp) _).mono hb0.size)
  refine ⟨w.heap.size + 1, [{ target := .collected w.heap.size, args := #[] }], W1, { target := .fn (.func gf) lb, args := #[.func (.yield (w.heap.size + 1)) #[] #[]] }, W1, gf, #[.func (.yield (w.heap.size + 1)) #[] #[]] ++ lb, W1, ?_, ?_, fun _ _ => trivial, ?_, fun _ => by omega, ?_⟩
  · rw [← hW1, hrec]
    exact run_enterLoop_outer _ _ _ _ _
  · simp only [resolve, hg]
    simp [go_sem]
  · simp [invoke, go_sem, eg]
  · refine callsIn_wide.2 ((hit (w.heap.size + 1) (fun pre W => I pre W ∧ W.heap[w.heap.size + 1]? = some (.loop (rec .ready none)) ∧ W.heap[w.heap.size]? = some (.deferred (some []))) W1 hb1 ?_ ?_ ⟨hI1, hL1, hD1⟩).mono ?_)
    · intro s X Y row hs hg' hr
      have keep : ∀ (k : Nat) (o : Obj), k < W1.heap.size → X.heap[k]? = some o → Y.heap[k]? = some o := fun k o hk ho =>
        (hg'.block k (Array.getElem?_eq_some_iff.1 ho).1 (fun e => by have := (hr k e.symm).1; omega)).trans ho
      exact ⟨hI s X Y row hs.1 hg' (fun r e => ⟨by have := (hr r e).1; omega, (hr r e).2⟩), keep _ _ (by omega) hs.2.1, keep _ _ (by omega) hs.2.2⟩
    · rintro pre x v V hpre ⟨hi, hl, hk⟩ hrd hsz
      have hlt : w.heap.size + 1 < V.heap.size := (Array.getElem?_eq_some_iff.1 hl).1
      have hy := run_yield (P := P) (args := #[v]) hl (by rw [hrec]; rfl)
      rw [hrec] at hy
      refine ⟨fn, _, assign, body, hy, roundIn_of_wpIn hfn ?_⟩
      clear hy
      have e1 : (Array.zip #[q] #[v]).foldl (fun tmps (t, a) => tmps.setIfInBounds t a) a.tmps = a.tmps.setIfInBounds q v := by simp [Array.zip]
      show assign.wpIn _ _ _ _ { tmps := (Array.zip #[q] #[v]).foldl (fun tmps (t, a) => tmps.setIfInBounds t a) a.tmps, defers := [] } V
      rw [e1]
      refine hassign _ v V _ ?_
      refine ⟨_, run_beginRound hl (by rw [hrec]), ?_⟩
      have hl2 : (V.putObj (w.heap.size + 1) (.loop { rec .ready none with state := .busy })).heap[w.heap.size + 1]? = some (.loop { rec .ready none with state := .busy }) := World.putObj_heap_same hlt
      have hk2 : (V.putObj (w.heap.size + 1) (.loop { rec .ready none with state := .busy })).heap[w.heap.size]? = some (.deferred (some [])) := (World.putObj_heap_other (by omega)).trans hk
      have hw2 : Kp V (V.putObj (w.heap.size + 1) (.loop { rec .ready none with state := .busy })) := hKb _ _ _ _ (by omega) hl rfl
      have hz2 : (V.putObj (w.heap.size + 1) (.loop { rec .ready none with state := .busy })).heap.size = V.heap.size := by simp [World.putObj]
      have hp2 : ∀ k, k ≠ w.heap.size + 1 → (V.putObj (w.heap.size + 1) (.loop { rec .ready none with state := .busy })).heap[k]? = V.heap[k]? := fun k hk => World.putObj_heap_other hk
      refine wpIn_mono (hbody _ pre x v _ (by omega) hpre (hI.putObj _ hi (by omega) hl rfl) ((hRd x v).putObj (s := ()) _ hrd (by omega) hl rfl) (by rw [hz2]; omega)) ?_
      rintro e a3 W3 ⟨rfl, hk3, hkp3, hi3⟩
      have hl3 := hk3.same _ _ (by omega) hl2 rfl
      have hd3 := hk3.same _ _ (Nat.le_refl _) hk2 rfl
      have hr := run_endRound (P := P) none hl3
      have hlt3 := (Array.getElem?_eq_some_iff.1 hl3).1
      have hrd3 : ({ (rec LoopState.ready none) with state := if (none : Option Code).isNone then LoopState.ready else LoopState.done, pending := none } : Loop) = rec .ready none := by rw [hrec]; rfl
      refine ⟨_, _, hr, rfl, ⟨hI.putObj _ hi3 (by omega) hl3 rfl, ?_, (World.putObj_heap_other (by omega)).trans hd3⟩, hKt (hKt hw2 hkp3) (hKb _ _ _ _ (by omega) hl3 rfl), ?_, ?_⟩
      · rw [World.putObj_heap_same hlt3, hrec]
        rfl
      · have h1 := hk3.size
        simp only [World.putObj, Array.size_setIfInBounds] at h1 ⊢
        omega
      · intro k o hB ho hc
        have hne : k ≠ w.heap.size + 1 := by omega
        refine (World.putObj_heap_other hne).trans (hk3.same k o (by omega) ((hp2 k hne).trans ho) hc)
    · rintro e W2 ⟨⟨v, rfl⟩, hi, hl, hk⟩
      exact ⟨none, _, by have := run_endLoop (P := P) hl (by rw [hrec]; simp); rw [hrec] at this; exact this, hdone _ _ (Nat.le_refl _) (hI.putObj _ hi (by omega) hl rfl) ((World.putObj_heap_other (by omega)).trans hk)⟩
end Go.Proofs.YtmmbblfmhcegcaaGreat

namespace Go.Proofs.YtmmbblfmhcegcaaGreat
open Go.RowKit Go

section
variable {P : Program} {ops : Array Oper} {C : World → Prop} {E : World → World → Prop} {Pf : Nat → Option ((Value → Prop) × ((Nat → Value) → Value → World → Prop))} {D : Nat → List Nat}

/-- Each operation ahead of the last one is waited for by a later one. -/
def sinkT (ops : Array Oper) (n : Nat) : Bool :=
  (List.range n).all fun j => (List.range (n + 1)).any fun i => decide (j < i) && (match ops[i]? with
    | some o => o.after.toList.any fun e => Region.binds .any e && e.on == j
    | none => false)
theorem sinkT_spec {n : Nat} (h : sinkT ops n = true) {j : Nat} (hj : j < n) : ∃ i o, j < i ∧ i ≤ n ∧ ops[i]? = some o ∧ ∃ e ∈ o.after, Region.binds .any e = true ∧ e.on = j := by
  simp only [sinkT, List.all_eq_true, List.mem_range] at h
  have h1 := h j hj
  simp only [List.any_eq_true, List.mem_range, Bool.and_eq_true, decide_eq_true_eq] at h1
  obtain ⟨i, hi, hji, h2⟩ := h1
  cases ho : ops[i]? with
  | none => rw [ho] at h2; cases h2
  | some o =>
    rw [ho] at h2
    simp only [List.any_eq_true, Bool.and_eq_true, beq_iff_eq] at h2
    obtain ⟨e, he, hb, hon⟩ := h2
    exact ⟨i, o, hji, by omega, ho, e, by simpa using he, hb, hon⟩
theorem sink_all {n : Nat} {L : Nat → Bool} (h : sinkT ops n = true) (hL : ClosedR ops L) {ot : Oper} (ho : ops[n]? = some ot) (hall : ∀ e ∈ ot.after, Region.binds .any e = true → L e.on = true) : ∀ j, j < n → L j = true := by
  have key : ∀ d j, j < n → n - j = d → L j = true := by
    intro d
    induction d using Nat.strongRecOn with
    | _ d ih =>
      intro j hj hd
      obtain ⟨i, o, hji, hin, hoi, e, he, hb, rfl⟩ := sinkT_spec h hj
      by_cases hi : i = n
      · subst hi
        rw [ho] at hoi
        cases hoi
        exact hall e he hb
      · exact hL i (ih (n - i) (by omega) i (by omega) rfl) o hoi e he hb
  exact fun j hj => key _ j hj rfl

theorem wpRel_post {Q Q' : Act → World → Prop} (hq : ∀ a w, Q a w → Q' a w) : ∀ (l : List Oper) {k : Nat} {vs : Nat → Value} {Γ : List (Nat × (World → Prop))} {a : Act}, wpRel P ops C E Pf D Q l k vs Γ a → wpRel P ops C E Pf D Q' l k vs Γ a := by
  intro l
  induction l with
  | nil => intro k vs Γ a h w hC hΓ; exact hq _ _ (h w hC hΓ)
  | cons o l ih =>
    intro k vs Γ a h
    unfold wpRel at h ⊢
    split at h
    · rename_i hw
      rw [if_pos hw]
      cases hp : Pf k with
      | none =>
        rw [hp] at h
        obtain ⟨v, h1, h2⟩ := h
        exact ⟨v, h1, ih h2⟩
      | some R =>
        rw [hp] at h
        exact ⟨h.1, fun v hv => ih (h.2 v hv)⟩
    · rename_i hw
      rw [if_neg hw]
      exact ih h

theorem gamma_lt {a0 : Act} {vals : Nat → Value} {p : Nat × (World → Prop)} : ∀ {k}, p ∈ gammaR ops a0 Pf vals k → p.1 < k := by
  intro k
  induction k with
  | zero => intro h; simp [gammaR] at h
  | succ k ih =>
    intro h
    simp only [gammaR] at h
    split at h
    · split at h
      · rcases List.mem_cons.1 h with rfl | h
        · exact Nat.lt_succ_self _
        · have := ih h; omega
      · have := ih h; omega
    · have := ih h; omega

theorem wpAny_of_relT {a0 : Act} {l : List Oper} {ot : Oper} {Q' : Exit → Act → World → Prop} (hops : ops = (l ++ [ot]).toArray) (hB : RelB ops D) (hloc : LocalR Pf D) (hin : ∀ k R, Pf k = some R → ∃ v, R.1 v)
    (hpers : ∀ k R, Pf k = some R → ∀ vs v w w', R.2 vs v w → C w' → E w w' → R.2 vs v w') (hs : sinkT ops l.length = true) (tree : wpRel P ops C E Pf D (fun a w => wpOp P ops Q' l.length (Q' .normal) a w) l 0 (fun _ => undef) [] a0) :
    ∀ (fuel : Nat) (listed : Array Bool) (vals : Nat → Value) (a : Act) (w : World), listed.size = ops.size → left (fun j => listed.getD j false) ops.size = fuel → ClosedR ops (fun j => listed.getD j false) → listed.getD l.length false = false →
      a = frameR ops a0 (fun j => listed.getD j false) vals ops.size → C w → (∀ j, listed.getD j false = true → rightR P ops a0 C Pf D vals j) → (∀ j, listed.getD j false = true → factR ops a0 Pf vals j w) →
      wpAny P .any ops Q' fuel listed a w := by
  have hsz : ops.size = l.length + 1 := by rw [hops]; simp
  have hot : ops[l.length]? = some ot := by rw [hops]; simp
  intro fuel
  induction fuel with
  | zero =>
    intro listed vals a w hsize hfuel hL ht ha hC hr hf
    have := left_zero hfuel l.length (by omega)
    rw [ht] at this
    cases this
  | succ fuel ih =>
    intro listed vals a w hsize hfuel hL ht ha hC hr hf
    refine ⟨fun hready => ?_, fun i hi => ?_⟩
    · exfalso
      have hall : ∀ j, j < ops.size → listed.getD j false = true := by
        intro j
        induction j using Nat.strongRecOn with
        | _ j ihj =>
          intro hj
          cases hlj : listed.getD j false with
          | true => rfl
          | false =>
            exfalso
            have : j ∈ Region.ready .any ops listed := mem_ready.2 ⟨by
              have : j < listed.size := by omega
              simp [this] at hlj ⊢; exact hlj, ops[j], Array.getElem?_eq_getElem hj, fun e he hb => by
                have hlt := hB.order j _ (Array.getElem?_eq_getElem hj) e he hb
                exact ihj e.on hlt (by omega)⟩
            rw [hready] at this; cases this
      have := hall l.length (by omega)
      rw [ht] at this
      cases this
    · obtain ⟨h0, o, ho, hall⟩ := mem_ready.1 hi
      have hlt := (Array.getElem?_eq_some_iff.1 ho).1
      have hil : i < listed.size := by omega
      have hi0 : listed.getD i false = false := by simp [hil] at h0 ⊢; exact h0
      have hset : (fun j => (listed.setIfInBounds i true).getD j false) = upd (fun j => listed.getD j false) i true := by
        funext j
        by_cases hij : j = i
        · subst hij; simp [upd, hil]
        · simp only [upd, hij, if_false]; exact getD_set_ne false (Ne.symm hij)
      by_cases hit : i = l.length
      · subst hit
        obtain rfl : ot = o := Option.some.inj (hot.symm.trans ho)
        have hdone := sink_all hs hL hot hall
        obtain ⟨vals1, hv, htr⟩ := descend (vals := vals) hops hB hloc hin hL tree hr hC hf l.length (Nat.le_refl _)
        rw [List.drop_length] at htr
        unfold wpRel at htr
        have e : a = lexA ops a0 vals1 l.length := by
          rw [ha, hsz]
          simp only [frameR, hi0]
          exact frameR_congr a0 l.length fun j hj => ⟨by rw [hdone j hj], fun h => (hv j h).symm⟩
        have hop := htr w hC fun p hp => by
          obtain ⟨hpw, R, hR, hpe⟩ := gammaR_spec hp
          rw [hpe]
          have hpl : p.1 < l.length := gamma_lt hp
          exact (fact_congr hB hloc hL hv (hdone p.1 hpl)).1 (hf p.1 (hdone p.1 hpl)) hpw R hR
        rw [← e] at hop
        refine wpOp_mono (fun a' w' hq => ?_) hop
        have h0' : left (fun j => (listed.setIfInBounds l.length true).getD j false) ops.size = fuel := by
          rw [hset]
          have := left_upd (L := fun j => listed.getD j false) hi0 hlt
          omega
        have hallt : ∀ j, j < ops.size → (listed.setIfInBounds l.length true).getD j false = true := by
          intro j hj
          rw [show (listed.setIfInBounds l.length true).getD j false = upd (fun j => listed.getD j false) l.length true j from congrFun hset j]
          by_cases hjl : j = l.length
          · simp [upd, hjl]
          · simp only [upd, hjl, if_false]
            exact hdone j (by omega)
        have hready : Region.ready .any ops (listed.setIfInBounds l.length true) = [] := by
          rw [List.eq_nil_iff_forall_not_mem]
          intro j hj
          obtain ⟨hj0, oj, hoj, _⟩ := mem_ready.1 hj
          have hjl := (Array.getElem?_eq_some_iff.1 hoj).1
          have h1 := hallt j hjl
          have : j < (listed.setIfInBounds l.length true).size := by simp; omega
          rw [Array.getD_eq_getD_getElem?, Array.getElem?_eq_getElem this] at hj0 h1
          simp only [Option.getD_some] at hj0 h1
          rw [hj0] at h1
          cases h1
        cases fuel with
        | zero => exact ⟨hready, hq⟩
        | succ f => exact ⟨fun _ => hq, fun j hj => by rw [hready] at hj; cases hj⟩
      · have hil' : i < l.length := by omega
        refine rel_step (L := fun j => listed.getD j false) (vals := vals) (n := ops.size) hops hB hloc hin hL tree hr hC hf ho hi0 hall (fun j hj => by
          rcases Nat.lt_or_ge j ops.size with h | h
          · exact h
          · simp [Array.getElem?_eq_none (by omega : listed.size ≤ j)] at hj) a ha Q' _ hil' ?_
        intro v w' hC' hww hright hfact
        have hne : ∀ j, listed.getD j false = true → j ≠ i := fun j hj h => by rw [h, hi0] at hj; cases hj
        have hvv : ∀ j, listed.getD j false = true → upd vals i v j = vals j := fun j hj => by simp [upd, hne j hj]
        refine ih _ (upd vals i v) _ w' (by simpa using hsize) ?_ ?_ ?_ ?_ hC' ?_ ?_
        · rw [hset]
          have := left_upd (L := fun j => listed.getD j false) hi0 hlt
          omega
        · rw [hset]
          intro j hj oj hoj e he hb
          by_cases hji : j = i
          · subst hji
            obtain rfl : o = oj := Option.some.inj (ho.symm.trans hoj)
            have := hall e he hb
            by_cases hei : e.on = j
            · simp [upd, hei]
            · simp only [upd, hei, if_false]; exact this
          · have hj' : listed.getD j false = true := by simpa [upd, hji] using hj
            have := hL j hj' oj hoj e he hb
            by_cases hei : e.on = i
            · simp [upd, hei]
            · simp only [upd, hei, if_false]; exact this
        · rw [show (listed.setIfInBounds i true).getD l.length false = upd (fun j => listed.getD j false) i true l.length from congrFun hset l.length]
          simp only [upd, show l.length ≠ i by omega, if_false]
          exact ht
        · rw [hset, ha]
          have hd : dstAt ops i = o.dst := by simp [dstAt, ho]
          rw [← hd]
          exact (frameR_add a0 v hi0 (fun d j hd hj => hB.uniq _ _ d hd hj) ops.size hlt).symm
        · rw [show (∀ j, (listed.setIfInBounds i true).getD j false = true → rightR P ops a0 C Pf D (upd vals i v) j) ↔ (∀ j, upd (fun j => listed.getD j false) i true j = true → rightR P ops a0 C Pf D (upd vals i v) j) from by
            rw [← hset]]
          intro j hj
          by_cases hji : j = i
          · subst hji; exact hright
          · have hj' : listed.getD j false = true := by simpa [upd, hji] using hj
            exact right_congr hB hloc hL hvv hj' (hr j hj')
        · rw [show (∀ j, (listed.setIfInBounds i true).getD j false = true → factR ops a0 Pf (upd vals i v) j w') ↔ (∀ j, upd (fun j => listed.getD j false) i true j = true → factR ops a0 Pf (upd vals i v) j w') from by
            rw [← hset]]
          intro j hj
          by_cases hji : j = i
          · subst hji; exact hfact
          · have hj' : listed.getD j false = true := by simpa [upd, hji] using hj
            refine (fact_congr hB hloc hL hvv hj').1 fun hw R hR => ?_
            have := hf j hj' hw R hR
            rcases hww with rfl | hb
            · exact this
            · exact hpers j R hR _ _ _ _ this hC' hb

theorem wp_region_relT {ops : Array Oper} {id : Nat} {Q : Exit → Act → World → Prop} {a : Act} {w : World} {l : List Oper} {ot : Oper} (hops : ops = (l ++ [ot]).toArray) (C : World → Prop) (E : World → World → Prop) (Pf : Nat → Option ((Value → Prop) × ((Nat → Value) → Value → World → Prop))) (D : Nat → List Nat)
    (hm : P.follows .mixedOrders = true) (hB : relB ops D = true) (hloc : LocalR Pf D) (hin : ∀ k R, Pf k = some R → ∃ v, R.1 v)
    (hpers : ∀ k R, Pf k = some R → ∀ vs v w w', R.2 vs v w → C w' → E w w' → R.2 vs v w') (hs : sinkT ops l.length = true) (hg : ot.guard = none) (hC : C w.drew)
    (h : wpRel P ops C E Pf D (fun a' w' => ot.wp P a' w' (Q .normal) Q) l 0 (fun _ => undef) [] a) : (Code.region id ops true).wp P Q a w := by
  have hB' := relB_spec hB
  have hot : ops[l.length]? = some ot := by rw [hops]; simp
  have hrep : ∀ m, (fun j => (Array.replicate m false).getD j false) = fun _ => false := fun m => by
    funext j
    simp [Array.getElem?_replicate]
    split <;> rfl
  have hno : ∀ j, (Array.replicate ops.size false).getD j false = true → False := fun j hj => by
    rw [show (Array.replicate ops.size false).getD j false = false from congrFun (hrep ops.size) j] at hj
    cases hj
  refine wp_region_any hm ?_
  refine wpAny_of_relT (a0 := a) hops hB' hloc hin hpers hs ?_ _ _ (fun _ => undef) _ _ (by simp) ?_ ?_ ?_ ?_ hC ?_ ?_
  · refine wpRel_post (fun a' w' h' => ?_) _ h
    unfold wpOp
    rw [hot]
    have hw : Region.wanted ot (yielded ops a'.tmps) = true := by simp [Region.wanted, hg]
    simp only [hw, if_true]
    exact .inl h'
  · rw [hrep]
    unfold left
    rw [List.filter_eq_self.2 (by simp)]
    simp
  · intro j hj
    exact (hno j hj).elim
  · exact congrFun (hrep ops.size) l.length
  · rw [hrep]
    generalize ops.size = n
    induction n with
    | zero => rfl
    | succ n ih => simpa [frameR] using ih
  · intro j hj
    exact (hno j hj).elim
  · intro j hj
    exact (hno j hj).elim
end
end Go.Proofs.YtmmbblfmhcegcaaGreat
