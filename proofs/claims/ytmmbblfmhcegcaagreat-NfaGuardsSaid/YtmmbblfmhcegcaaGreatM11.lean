/- Several texts of one proof: The names that a step asks: the walk of tree.Asked. | The fourth and the seventh rule of the layer of checks: the walks. | Plain laws: the first step that is not so; the places of all that are not. -/
import Derived.Test.YtmmbblfmhcegcaaGreatM10
import Derived.Test.YtmmbblfmhcegcaaGreatM04
import Derived.Test.YtmmbblfmhcegcaaGreatM03
import Derived.Test.YtmmbblfmhcegcaaGreatM07

namespace Go.Proofs.YtmmbblfmhcegcaaGreat
open Go.RowKit Go.Shelf
attribute [local go_sem] Oper.semAt_some

theorem names_any (t : Tm) (w : World) : Calls Tryz.prog 81 #[tmV t] w fun e w' =>
    e = .returned (.func (.func 88) #[] #[.pointer (some ⟨w.heap.size, 0, none⟩)]) ∧ w' = w.alloc (.cells #[.int .u8 t.k, .int .i64 t.n, .int .i64 t.s, .int .i64 t.r] 76) := by
  go_enter Tryz.func81, Tryz.ntmps81
  go_wp2
  go_ret
  exact ⟨rfl, rfl⟩

theorem names_stops (n : Nat) (hn : 1 ≤ n) (Bt : Nat) (t : Tm) (w : World) (hB : Blk w Bt 76 #[.int .u8 t.k, .int .i64 t.n, .int .i64 t.s, .int .i64 t.r]) :
    SeqStopsK Fence.wide n Tryz.prog 88 #[.pointer (some ⟨Bt, 0, none⟩)] (fun x : Int => #[Value.int .i64 x]) (KB Bt) (fun ys => ys = t.names) (fun pre => pre <+: t.names) t.names.length w := fun l J Jx W hW hJ _ hY h0 =>
  names1_in n hn l Bt t J Jx W hJ (hB.below hW hB.lt) hY h0

theorem blk_app {W w1 : World} {tmp : Obj} {v v' : Value} {G2 Bt base : Nat} {t : TypeId} {cs : Array Value} {l : List Int} (h : Blk W Bt t cs) (hne : Bt ≠ G2) (hown : OwI W base v l) (ht : t ≠ 3) (hg : (W.alloc tmp).grownBy w1 v.ownBlock) :
    Blk (w1.setCell ⟨G2, 0, none⟩ v') Bt t cs := by
  refine Blk.far (p := ⟨G2, 0, none⟩) ?_ hne _
  refine (hg.block Bt (by have := h.lt; simp; omega) ?_).trans (h.alloc tmp)
  rcases hown.2 with ⟨rfl, -⟩ | ⟨g, cap, cur, rfl, -, hgb, -⟩
  · simp [Value.ownBlock]
  · intro e
    obtain rfl : Bt = g := by simpa [Value.ownBlock] using e
    have := (show W.heap[Bt]? = _ from h).symm.trans hgb
    simp at this
    exact ht this.2
theorem own_form2 {w : World} {base : Nat} {v : Value} {l : List Int} (h : OwI w base v l) (hl : l ≠ []) : ∃ g n cap, v = .slice (some ⟨g, 0, none⟩) n cap := by
  obtain ⟨g, cap, e, -⟩ := h.form1 hl
  exact ⟨g, _, cap, e⟩
theorem own_form3 {w : World} {base : Nat} {v : Value} {l : List Int} (h : OwI w base v l) : ∃ A n cap, v = .slice A n cap := by
  obtain ⟨A, cap, e⟩ := h.form
  exact ⟨A, _, cap, e⟩
theorem OwI.others {w w' : World} {base : Nat} {v : Value} {l : List Int} (h : OwI w base v l) (hg : w.grownBy w' v.ownBlock) : KeepsOthers w w' :=
  KeepsOthers.of_grownBy hg fun j o ej hj => by
    rcases h.2 with ⟨rfl, -⟩ | ⟨g, cap, cur, rfl, -, hgb, -⟩
    · simp [Value.ownBlock] at ej
    · obtain rfl : g = j := by simpa [Value.ownBlock] using ej
      rw [hgb] at hj; cases hj; rfl
theorem names_snoc {cs : List Cm} {k : Nat} {c : Cm} (h : cs[k]? = some c) : allNames (cs.take (k + 1)) = allNames (cs.take k) ++ c.l.names ++ c.r.names := by
  simp [allNames, List.take_add_one, h, Cm.names]
theorem names_len (t : Tm) : t.names.length ≤ 2 := by unfold Tm.names; split <;> (try split) <;> simp
theorem allNames_len (cs : List Cm) (k : Nat) : (allNames (cs.take k)).length ≤ 4 * k := by
  have key : ∀ l : List Cm, (allNames l).length ≤ 4 * l.length := by
    intro l
    induction l with
    | nil => simp [allNames]
    | cons c l ih =>
      have h1 := names_len c.l
      have h2 := names_len c.r
      simp only [allNames, List.flatMap_cons, Cm.names, List.length_append, List.length_cons] at ih ⊢
      omega
  have := key (cs.take k)
  have h2 : (cs.take k).length ≤ k := List.length_take_le _ _
  omega

/-- What a round of the inner loop knows. -/
def AskI (w : World) (G2 Bt : Nat) (t : Tm) (L : List Int) (ds : List Nat) (pre : List Int) (W : World) : Prop :=
  ∃ v, Boxed W G2 28 v ∧ OwI W G2 v (L ++ pre) ∧ Below w.heap.size w W ∧ DefOk W ds ∧ Blk W Bt 76 #[.int .u8 t.k, .int .i64 t.n, .int .i64 t.s, .int .i64 t.r]
theorem AskI.kept {w : World} {G2 Bt : Nat} {t : Tm} {L : List Int} {ds : List Nat} {n : Nat} (hds : ∀ D ∈ ds, D < n) (hw : w.heap.size ≤ n) {pre : List Int} {W W' : World} (h : AskI w G2 Bt t L ds pre W) (k : Kept n W W') : AskI w G2 Bt t L ds pre W' := by
  obtain ⟨v, h1, h2, h3, h4, h5⟩ := h
  exact ⟨v, k.cells _ _ h1 rfl, h2.keptK k, h3.trans (k.below.mono hw), h4.kept hds k, h5.kept k⟩

set_option maxRecDepth 100000 in
set_option maxHeartbeats 8000000 in
theorem asked_any (s : Sp) (cv : Value) (w : World) (h : RdC w w.heap.size cv s.cmps) (hlen : s.cmps.length ≤ 100000) :
    Calls Tryz.prog 70 #[spV s cv] w fun e w' => (∃ v, e = .returned v ∧ OwI w' w.heap.size v (asked s.cmps)) ∧ Below w.heap.size w w' := by
  obtain ⟨neg, kind, mn, mx, strict, cmps⟩ := s
  simp only at h hlen
  obtain ⟨A, cap, b, off, rfl, h2, h3, h4, h5⟩ := h
  refine (callsIn_wide (n := 3)).1 ?_
  refine callsIn_of_wp_marks Tryz.func70 rfl trivial ?_ rfl
  simp only [Tryz.ntmps70, List.size_toArray, List.length_cons, List.length_nil, Nat.reduceAdd, Nat.reduceSub, Array.replicate_succ, Array.replicate_zero, List.push_toArray, List.append_toArray, List.nil_append, List.cons_append]
  gi_wp2
  have s0 : Below w.heap.size w ((w.alloc (.cells #[.bool neg, .int .i64 kind, .int .i64 mn, .int .i64 mx, .bool strict, .slice A cmps.length cap] 45)).alloc (.cells #[.slice none 0 0] 28)) := ((Below.refl _ _).alloc (Nat.le_refl _) _).alloc (by simp) _
  have s1 : Boxed ((w.alloc (.cells #[.bool neg, .int .i64 kind, .int .i64 mn, .int .i64 mx, .bool strict, .slice A cmps.length cap] 45)).alloc (.cells #[.slice none 0 0] 28)) (w.heap.size + 1) 28 (.slice none 0 0) := by
    have := Boxed.new (w.alloc (.cells #[.bool neg, .int .i64 kind, .int .i64 mn, .int .i64 mx, .bool strict, .slice A cmps.length cap] 45)) 28 (.slice none 0 0)
    simpa using this
  generalize (w.alloc _).alloc _ = W0 at *
  refine wpIn_loop (fun a W => ∃ (k : Nat) (ds : List Nat) (v : Value) (u3 u4 u5 u6 u7 u12 u13 u14 u15 u16 u17 u18 u19 u20 u21 u22 u23 u24 u25 u26 u27 u28 u29 u30 u31 : Value), k ≤ cmps.length ∧ a = { tmps := #[spV ⟨neg, kind, mn, mx, strict, cmps⟩ (.slice A cmps.length cap), .pointer (some ⟨w.heap.size, 0, none⟩), .pointer (some ⟨w.heap.size + 1, 0, none⟩), u3, u4, u5, u6, u7, .pointer (some ⟨w.heap.size, 5, none⟩), .slice A cmps.length cap, .int .i64 cmps.length, .int .i64 k, u12, u13, u14, u15, u16, u17, u18, u19, u20, u21, u22, u23, u24, u25, u26, u27, u28, u29, u30, u31, undef, undef, undef, undef], defers := ds.map coll } ∧
    Boxed W (w.heap.size + 1) 28 v ∧ OwI W (w.heap.size + 1) v (allNames (cmps.take k)) ∧ Below w.heap.size w W ∧ DefOk W ds ∧ ds.Nodup ∧ (∀ D ∈ ds, w.heap.size ≤ D)) (fun a _ => cmps.length - (intOf (a.tmps.getD 11 undef)).toNat) ?_ ?_
  · exact ⟨0, [], _, _, _, _, _, _, _, _, _, _, _, _, _, _, _, _, _, _, _, _, _, _, _, _, _, _, by omega, rfl, s1, OwI.nil _ _, s0, fun _ h => by simp at h, List.Pairwise.nil, fun _ h => by simp at h⟩
  rintro a wr ⟨k, ds, v, u3, u4, u5, u6, u7, u12, u13, u14, u15, u16, u17, u18, u19, u20, u21, u22, u23, u24, u25, u26, u27, u28, u29, u30, u31, hk, rfl, hbox, hown, hB, hdef, hnd, hge⟩
  by_cases hlt : k < cmps.length
  · obtain ⟨rfl, hb⟩ := h4 (by omega)
    have hx := List.getElem?_eq_getElem hlt
    obtain ⟨vs, ⟨rfl, -⟩, hat⟩ := h5 k cmps[k] hx
    obtain ⟨c0, c1, c2, c3, c4, c5, c6, c7, c8⟩ := (hat.below hB hb).c9
    have hsn := hide (names_snoc hx)
    have hnl := allNames_len cmps k
    clear hat h5 hx
    generalize cmps[k] = c at *
    generalize allNames (cmps.take k) = L at *
    obtain ⟨op, l, r⟩ := c
    simp only at c0 c1 c2 c3 c4 c5 c6 c7 c8 hsn
    gi_wp2
    obtain ⟨W1, hW1⟩ : ∃ W1, wr.alloc (.cells #[.int .u8 op, .int .u8 l.k, .int .i64 l.n, .int .i64 l.s, .int .i64 l.r, .int .u8 r.k, .int .i64 r.n, .int .i64 r.s, .int .i64 r.r] 78) = W1 := ⟨_, rfl⟩
    rw [hW1]
    have hboxW1 : Boxed W1 (w.heap.size + 1) 28 v := by rw [← hW1]; exact hbox.alloc _
    have hownW1 : OwI W1 (w.heap.size + 1) v L := by rw [← hW1]; exact hown.alloc _
    have hBW1 : Below w.heap.size w W1 := by rw [← hW1]; exact hB.alloc hB.size _
    have hdefW1 : DefOk W1 ds := by rw [← hW1]; exact hdef.keeps (KeepsOthers.alloc _ _)
    clear hW1 hbox hown hB hdef c0 c1 c2 c3 c4 c5 c6 c7 c8
    obtain ⟨vW1, hvW1⟩ : ∃ x, x = v := ⟨_, rfl⟩
    subst hvW1
    refine wpIn_loop_rounds 3 ?_
    rw [roundsIn_succ]
    have i0 : ∀ w, (Instr.index 97 (.agg #[.int .u8 l.k, .int .i64 l.n, .int .i64 l.s, .int .i64 l.r, .int .u8 r.k, .int .i64 r.n, .int .i64 r.s, .int .i64 r.r]) (.int .i64 0)).run Tryz.prog w = .ok (tmV l) w := fun _ => by kernel_rfl
    have i1 : ∀ w, (Instr.index 97 (.agg #[.int .u8 l.k, .int .i64 l.n, .int .i64 l.s, .int .i64 l.r, .int .u8 r.k, .int .i64 r.n, .int .i64 r.s, .int .i64 r.r]) (.int .i64 1)).run Tryz.prog w = .ok (tmV r) w := fun _ => by kernel_rfl
    gi_wp2_with (refine ⟨trivial, ?_⟩; gi_at_call 81; (with_reducible refine (callsIn_wide.2 (names_any l _)).mono ?_); rintro e w1 ⟨rfl, rfl⟩)
    obtain ⟨W2, hW2⟩ : ∃ W2, (W1.alloc (.cells #[.int .u8 l.k, .int .i64 l.n, .int .i64 l.s, .int .i64 l.r] 76)).alloc (.cells #[.int .u8 l.k, .int .i64 l.n, .int .i64 l.s, .int .i64 l.r] 76) = W2 := ⟨_, rfl⟩
    rw [hW2]
    have hboxW2 : Boxed W2 (w.heap.size + 1) 28 vW1 := by rw [← hW2]; exact (hboxW1.alloc _).alloc _
    have hownW2 : OwI W2 (w.heap.size + 1) vW1 (L) := by rw [← hW2]; exact (hownW1.alloc _).alloc _
    have hBW2 : Below w.heap.size w W2 := by rw [← hW2]; exact (hBW1.alloc hBW1.size _).alloc (by have := hBW1.size; simp; omega) _
    have hdefW2 : DefOk W2 (ds) := by rw [← hW2]; exact hdefW1.keeps ((KeepsOthers.alloc _ _).trans (KeepsOthers.alloc _ _))
    have hBtW2 : Blk W2 (W1.heap.size + 1) 76 #[.int .u8 l.k, .int .i64 l.n, .int .i64 l.s, .int .i64 l.r] := by rw [← hW2]; exact Blk.new_ (by simp) _ _
    have hGW2 : w.heap.size + 1 < W1.heap.size + 1 := by have := hboxW1.lt; omega
    clear hW2
    generalize W1.heap.size + 1 = BW2 at *
    have hzW2 := hBW2.size
    refine' rf_law (gf := 88) (lb := #[.pointer (some ⟨BW2, 0, none⟩)]) rfl (enters_of Tryz.func88 (by kernel_rfl) rfl) (names_stops 2 (by omega) BW2 l W2 hBtW2)
      KB.trans (KB.putObj hBtW2.lt) (fun _ => rfl) (AskI w (w.heap.size + 1) BW2 l (L) (ds)) (fun _ _ _ => False)
      (fun pre W W' h k => h.kept hdefW2.lt hBW2.size k) (fun _ _ _ _ h _ => h) ⟨_, hboxW2, by simpa using hownW2, hBW2, hdefW2, hBtW2⟩ _ ?assignW2 ?bodyW2 ?doneW2 (fun _ _ _ _ _ _ h => h.elim)
    case assignW2 =>
      intro l' x W K hK
      gi_wp2
      exact hK
    case bodyW2 =>
      rintro l' pre x W hW ⟨v', hbx, how, hBx, hdx, hbt⟩ hpl
      have hc1 := hbx.cell
      have hle : (L ++ pre).length < 1000000 := by
        have h1 := names_len l
        have h2 := names_len r
        simp only [List.length_append] at *
        omega
      have hle2 : w.heap.size + 1 ≤ (W.alloc (.cells #[.int .i64 x] 3)).heap.size := by have := hbx.lt; simp; omega
      gi_wp2_with (gi_at_builtin; refine app1In (x := x) (g := W.heap.size) (.tmp 26) (.tmp 28) rfl rfl rfl rfl (how.alloc _) (by simp) hle hle2 ?_; intro v1 w1 hown1 hg1; obtain ⟨g', nn, cap', hv1e⟩ := own_form2 hown1 (by simp); subst hv1e; obtain ⟨hv1, hv2, hr2, hk2, hb2⟩ := hbx.appended (n₀ := w.heap.size + 1) (by decide) how (by have := hbx.lt; omega) (Nat.le_refl _) hown1 hg1; have hc2 := hv1.cell; have hf2 := hv1.frozen; have hbt2 := blk_app (G2 := w.heap.size + 1) (v' := .slice (some ⟨g', 0, none⟩) nn cap') hbt (by omega) how (by decide) hg1)
      exact ⟨hk2.from _, Eq.trans hbt2 hbt.symm, _, hv2, by rw [← List.append_assoc]; exact hr2, hBx.trans (hb2.mono (by omega)), hdx.keeps hk2, hbt2⟩
    case doneW2 =>
      rintro D xs W3 hD rfl ⟨vW3, hboxW3, hownW3, hBW3, hdW3, -⟩ hKD
      have hdefW3 : DefOk W3 (D :: ds) := by
        intro D' h
        rcases List.mem_cons.1 h with rfl | h
        · exact hKD
        · exact hdW3 D' h
      have hnW3 : (D :: ds).Nodup := List.nodup_cons.2 ⟨fun h => by have := hdefW2.lt D h; omega, hnd⟩
      have hgW3 : ∀ D' ∈ D :: ds, w.heap.size ≤ D' := by
        intro D' h
        rcases List.mem_cons.1 h with rfl | h
        · omega
        · exact hge D' h
      clear hdW3 hKD hboxW2 hownW2 hdefW2 hBtW2 hboxW1 hownW1 hdefW1
      gi_wp2
      rw [roundsIn_succ]
      gi_wp2_with (refine ⟨trivial, ?_⟩; gi_at_call 81; (with_reducible refine (callsIn_wide.2 (names_any r _)).mono ?_); rintro e w1 ⟨rfl, rfl⟩)
      obtain ⟨W4, hW2⟩ : ∃ W2, (W3.alloc (.cells #[.int .u8 r.k, .int .i64 r.n, .int .i64 r.s, .int .i64 r.r] 76)).alloc (.cells #[.int .u8 r.k, .int .i64 r.n, .int .i64 r.s, .int .i64 r.r] 76) = W2 := ⟨_, rfl⟩
      rw [hW2]
      have hboxW4 : Boxed W4 (w.heap.size + 1) 28 vW3 := by rw [← hW2]; exact (hboxW3.alloc _).alloc _
      have hownW4 : OwI W4 (w.heap.size + 1) vW3 (L ++ l.names) := by rw [← hW2]; exact (hownW3.alloc _).alloc _
      have hBW4 : Below w.heap.size w W4 := by rw [← hW2]; exact (hBW3.alloc hBW3.size _).alloc (by have := hBW3.size; simp; omega) _
      have hdefW4 : DefOk W4 (D :: ds) := by rw [← hW2]; exact hdefW3.keeps ((KeepsOthers.alloc _ _).trans (KeepsOthers.alloc _ _))
      have hBtW4 : Blk W4 (W3.heap.size + 1) 76 #[.int .u8 r.k, .int .i64 r.n, .int .i64 r.s, .int .i64 r.r] := by rw [← hW2]; exact Blk.new_ (by simp) _ _
      have hGW4 : w.heap.size + 1 < W3.heap.size + 1 := by have := hboxW3.lt; omega
      clear hW2
      generalize W3.heap.size + 1 = BW4 at *
      have hzW4 := hBW4.size
      refine' rf_law (gf := 88) (lb := #[.pointer (some ⟨BW4, 0, none⟩)]) rfl (enters_of Tryz.func88 (by kernel_rfl) rfl) (names_stops 2 (by omega) BW4 r W4 hBtW4)
        KB.trans (KB.putObj hBtW4.lt) (fun _ => rfl) (AskI w (w.heap.size + 1) BW4 r (L ++ l.names) (D :: ds)) (fun _ _ _ => False)
        (fun pre W W' h k => h.kept hdefW4.lt hBW4.size k) (fun _ _ _ _ h _ => h) ⟨_, hboxW4, by simpa using hownW4, hBW4, hdefW4, hBtW4⟩ _ ?assignW4 ?bodyW4 ?doneW4 (fun _ _ _ _ _ _ h => h.elim)
      case assignW4 =>
        intro l' x W K hK
        gi_wp2
        exact hK
      case bodyW4 =>
        rintro l' pre x W hW ⟨v', hbx, how, hBx, hdx, hbt⟩ hpl
        have hc1 := hbx.cell
        have hle : (L ++ l.names ++ pre).length < 1000000 := by
          have h1 := names_len l
          have h2 := names_len r
          simp only [List.length_append] at *
          omega
        have hle2 : w.heap.size + 1 ≤ (W.alloc (.cells #[.int .i64 x] 3)).heap.size := by have := hbx.lt; simp; omega
        gi_wp2_with (gi_at_builtin; refine app1In (x := x) (g := W.heap.size) (.tmp 26) (.tmp 28) rfl rfl rfl rfl (how.alloc _) (by simp) hle hle2 ?_; intro v1 w1 hown1 hg1; obtain ⟨g', nn, cap', hv1e⟩ := own_form2 hown1 (by simp); subst hv1e; obtain ⟨hv1, hv2, hr2, hk2, hb2⟩ := hbx.appended (n₀ := w.heap.size + 1) (by decide) how (by have := hbx.lt; omega) (Nat.le_refl _) hown1 hg1; have hc2 := hv1.cell; have hf2 := hv1.frozen; have hbt2 := blk_app (G2 := w.heap.size + 1) (v' := .slice (some ⟨g', 0, none⟩) nn cap') hbt (by omega) how (by decide) hg1)
        exact ⟨hk2.from _, Eq.trans hbt2 hbt.symm, _, hv2, by rw [← List.append_assoc]; exact hr2, hBx.trans (hb2.mono (by omega)), hdx.keeps hk2, hbt2⟩
      case doneW4 =>
        rintro D2 xs W5 hD2 rfl ⟨vW5, hboxW5, hownW5, hBW5, hdW5, -⟩ hKD
        have hdefW5 : DefOk W5 (D2 :: D :: ds) := by
          intro D' h
          rcases List.mem_cons.1 h with rfl | h
          · exact hKD
          · exact hdW5 D' h
        have hnW5 : (D2 :: D :: ds).Nodup := List.nodup_cons.2 ⟨fun h => by have := hdefW4.lt D2 h; omega, hnW3⟩
        have hgW5 : ∀ D' ∈ D2 :: D :: ds, w.heap.size ≤ D' := by
          intro D' h
          rcases List.mem_cons.1 h with rfl | h
          · omega
          · exact hgW3 D' h
        gi_wp2
        rw [roundsIn_succ]
        gi_wp2
        rw [hsn.out.symm] at hownW5
        refine ⟨⟨k + 1, D2 :: D :: ds, vW5, _, _, _, _, _, _, _, _, _, _, _, _, _, _, _, _, _, _, _, _, _, _, _, _, _, by omega, rfl, hboxW5, hownW5, hBW5, hdefW5, hnW5, hgW5⟩, ?_⟩
        simp [intOf]
        omega
  · obtain rfl : k = cmps.length := by omega
    rw [List.take_of_length_le (Nat.le_refl _)] at hown
    have hal := allNames_len cmps cmps.length
    rw [List.take_of_length_le (Nat.le_refl _)] at hal
    have hc1 := hbox.cell
    have haq := hide (asked_eq cmps)
    generalize allNames cmps = L at *
    clear h4 h5
    have hlh := hide hlen
    gi_wp2_with (first | (refine ⟨trivial, ?_⟩; gi_at_call 82; refine (callsIn_wide.2 (sort_own hown (by omega))).mono ?_; rintro e W5 ⟨rfl, hown5, hg5⟩; have hbox5 := hbox.kept hg5 (hbox.not_row (by decide) hown); have hc5 := hbox5.cell) | (refine ⟨trivial, ?_⟩; gi_at_call 83; refine (callsIn_wide.2 (compact_own hown5 (by simp; omega))).mono ?_; rintro e W6 ⟨⟨v6, rfl, hown6⟩, hg6⟩; have hbox6 := hbox5.kept hg6 (hbox5.not_row (by decide) hown5); obtain ⟨A6, n6, cap6, hv6⟩ := own_form3 hown6; subst hv6; have hc6 := hbox6.cell; have hf6 := hbox6.frozen))
    rw [haq.out] at hown6
    have hk5 := hown.others hg5
    have hk6 := hown5.others hg6
    have hB6 : Below w.heap.size w W6 := (hB.grown hg5 hB.size (fun j e => by have := hown.lt j e; omega)).grown hg6 (Nat.le_trans hB.size hg5.size) (fun j e => by have := hown5.lt j e; omega)
    have hdef6 := (hdef.keeps hk5).keeps hk6
    have hne := hbox6.not_row (by decide) hown6
    have hdef7 := hdef6.keeps (KeepsOthers.setCell W6 ⟨w.heap.size + 1, 0, none⟩ (.slice A6 n6 cap6))
    refine rf_ret_list (v := .slice A6 n6 cap6) rfl hdef7 hnd (fun W' hcells hbel => ?_)
    have hb7 : Boxed W' (w.heap.size + 1) 28 (.slice A6 n6 cap6) := hcells _ _ (hbox6.set _) rfl
    have hc7 := hb7.cell
    refine ⟨by simp [results, Tryz.f70, go_sem, hc7], ⟨_, rfl, ?_⟩, ?_⟩
    · exact ((hown6.set (fun e => hne e.symm) _).cells hcells).mono (by omega)
    · exact (hB6.setCell (p := ⟨w.heap.size + 1, 0, none⟩) (by simp) _).trans (hbel w.heap.size hge)
end Go.Proofs.YtmmbblfmhcegcaaGreat

namespace Go.Proofs.YtmmbblfmhcegcaaGreat
open Go.RowKit

set_option maxRecDepth 100000 in
set_option maxHeartbeats 2000000 in
theorem rule4_first (s : Sp) (cv : Value) (B : Nat) (w : World) :
    Calls Tryz.prog 66 #[.int .i64 0, spV s cv, .pointer (some ⟨B, 0, none⟩)] w fun e w' => e = .returned (.bool ((!s.neg || !s.strict) && (!s.neg || decide (s.min = 1 ∧ s.max = 1)))) ∧ Below w.heap.size w w' := by
  obtain ⟨neg, kind, mn, mx, strict, cmps⟩ := s
  cases neg <;> cases strict
  all_goals
    by_cases h1 : mn = 1
    · subst h1
      go_enter Tryz.func66, Tryz.ntmps66
      go_wp2
      go_ret
      exact ⟨ret_bool (by first | rfl | (simp; done) | (simp; rfl)), (Below.refl _ _).alloc (Nat.le_refl _) _⟩
    · have h1' : (mn == 1) = false := by simpa using h1
      go_enter Tryz.func66, Tryz.ntmps66
      go_wp2
      go_ret
      exact ⟨ret_bool (by first | rfl | (simp; done) | simp [h1]), (Below.refl _ _).alloc (Nat.le_refl _) _⟩

set_option maxRecDepth 100000 in
set_option maxHeartbeats 4000000 in
theorem rule4_later (p : List Sp) (win : Int) (j : Nat) (q s : Sp) (cv : Value) (B : Nat) (w : World) (h : PBox w B p win) (hq : p[j]? = some q) :
    Calls Tryz.prog 66 #[.int .i64 ((j : Int) + 1), spV s cv, .pointer (some ⟨B, 0, none⟩)] w fun e w' =>
      e = .returned (.bool (((!s.neg && !q.neg) || !s.strict) && (!s.neg || decide (s.min = 1 ∧ s.max = 1)))) ∧ Below w.heap.size w w' := by
  obtain ⟨sv, hb, A, cap, b, off, rfl, h2, h3, h4, h5⟩ := h.box
  have hj := (List.getElem?_eq_some_iff.1 hq).1
  obtain ⟨rfl, hlt⟩ := h4 (by omega)
  obtain ⟨cs, ⟨cv', rfl, hcv⟩, hat⟩ := h5 j q hq
  obtain ⟨c0, c1, c2, c3, c4, c5⟩ := hat.c6
  have e0 : w.cell? ⟨B, 0, none⟩ = some (.slice (some ⟨b, off, none⟩) p.length cap) := hb.cell 0
  have hbl := hb.lt
  clear hcv hat h5 hb hq
  have hj' : (j : Int) < p.length := by omega
  have hj'' : ((j : Int) + 1 == 0) = false := by simp; omega
  have hw1 : IntKind.i64.wrap ((j : Int) + 1 - 1) = j := by rw [show (j : Int) + 1 - 1 = j by omega]; exact IntWalk.i64_in _ (by omega)
  obtain ⟨neg, kind, mn, mx, strict, cmps⟩ := s
  obtain ⟨qneg, qkind, qmn, qmx, qstrict, qcmps⟩ := q
  simp only at c0 c1 c2 c3 c4 c5
  cases neg <;> cases strict <;> cases qneg
  all_goals
    by_cases h1 : mn = 1
    · subst h1
      go_enter Tryz.func66, Tryz.ntmps66
      go_wp2
      go_ret
      exact ⟨ret_bool (by first | rfl | (simp; done) | (simp; rfl)), (Below.refl _ _).alloc (Nat.le_refl _) _⟩
    · have h1' : (mn == 1) = false := by simpa using h1
      go_enter Tryz.func66, Tryz.ntmps66
      go_wp2
      go_ret
      exact ⟨ret_bool (by first | rfl | (simp; done) | simp [h1]), (Below.refl _ _).alloc (Nat.le_refl _) _⟩

theorem rule4_any (p : List Sp) (win : Int) (k : Nat) (s : Sp) (cv : Value) (B : Nat) (w : World) (h : PBox w B p win) (hs : p[k]? = some s) :
    Calls Tryz.prog 66 #[.int .i64 k, spV s cv, .pointer (some ⟨B, 0, none⟩)] w fun e w' => e = .returned (.bool (rule4 p k s)) ∧ Below w.heap.size w w' := by
  cases k with
  | zero =>
    have := rule4_first s cv B w
    simpa [rule4] using this
  | succ j =>
    have hj : j < p.length := by have := (List.getElem?_eq_some_iff.1 hs).1; omega
    have := rule4_later p win j p[j] s cv B w h (List.getElem?_eq_getElem hj)
    have hst : stepAt p j = p[j] := by simp [stepAt, List.getElem?_eq_getElem hj]
    have hr : rule4 p (j + 1) s = (((!s.neg && !p[j].neg) || !s.strict) && (!s.neg || decide (s.min = 1 ∧ s.max = 1))) := by
      simp [rule4, hst]
    rw [hr]
    exact this

set_option maxRecDepth 100000 in
set_option maxHeartbeats 4000000 in
theorem rule7_any (p : List Sp) (win : Int) (k : Nat) (s : Sp) (cv : Value) (B : Nat) (w : World) (h : PBox w B p win) (hs : p[k]? = some s) (hcv : RdC w w.heap.size cv s.cmps) (h0 : ∀ n ∈ asked s.cmps, 0 ≤ n) :
    Calls Tryz.prog 69 #[.int .i64 k, spV s cv, .pointer (some ⟨B, 0, none⟩)] w fun e w' => e = .returned (.bool (rule7 p k s)) ∧ Below w.heap.size w w' := by
  obtain ⟨Ac, kc, rfl⟩ : ∃ A cap, cv = .slice A s.cmps.length cap := by
    obtain ⟨A, cap, b, off, rfl, -⟩ := hcv
    exact ⟨A, cap, rfl⟩
  have hkl := (List.getElem?_eq_some_iff.1 hs).1
  have hll : s.cmps.length ≤ 9223372036854775807 := RdL.lenle hcv
  by_cases h4 : 4 < s.cmps.length
  · have hv : rule7 p k s = false := by simp [rule7]; omega
    rw [hv]; clear hv
    have h4' : (4 : Int) < s.cmps.length := by omega
    go_enter Tryz.func69, Tryz.ntmps69
    go_wp2
    go_ret
    exact ⟨rfl, (Below.refl _ _).alloc (Nat.le_refl _) _⟩
  have hv : rule7 p k s = (asked s.cmps).all (askOk p k) := by simp [rule7]; omega
  rw [hv]; clear hv
  have hask := hide fun w1 (hb : Below w.heap.size w w1) => asked_any s _ w1 (RdC.below hcv hb hb.size) (by omega)
  replace h4 : (s.cmps.length : Int) ≤ 4 := by omega
  obtain ⟨sv, hb, A, cap, b, off, rfl, g2, g3, g4, g5⟩ := h.box
  obtain ⟨rfl, hlt⟩ := g4 (by omega)
  have e0 : w.cell? ⟨B, 0, none⟩ = some (.slice (some ⟨b, off, none⟩) p.length cap) := hb.cell 0
  have hbl := hb.lt
  clear hb hcv hs g4 h
  go_enter Tryz.func69, Tryz.ntmps69
  go_wp2_with (go_at_call 70; (with_reducible refine (hask.out _ ((Below.refl _ _).alloc (Nat.le_refl _) _)).mono ?_); rintro e w1 ⟨⟨v1, rfl, hown⟩, hB1⟩; obtain ⟨A1, cap1, rfl⟩ := hown.form)
  have s0 : Below w.heap.size w w1 := ((Below.refl _ _).alloc (Nat.le_refl _) _).trans (hB1.mono (by simp))
  have hrd := hown.rd
  obtain ⟨A2, cap2, b2, off2, e2, r2, r3, r4, r5⟩ := hrd
  obtain ⟨rfl, rfl⟩ : A1 = A2 ∧ cap1 = cap2 := by injection e2 with e1 _ e3; exact ⟨e1, e3⟩
  have hz := s0.size
  have h0h := hide h0
  clear e2 hown hask hB1 h0
  generalize hL : asked s.cmps = l at *
  have hLh := hide hL
  clear hL
  go_loopw [15] (fun i wr => ∃ m : Nat, m ≤ l.length ∧ i = .int .i64 m ∧ Hid ((l.take m).all (askOk p k) = true) ∧ Below w1.heap.size w1 wr) (fun i _ => l.length - (intOf i).toNat)
  case atStart => exact ⟨0, by omega, rfl, hide rfl, Below.refl _ _⟩
  case round =>
    obtain ⟨m, hm, rfl, hall, hB⟩ := hrel
    have s1 := s0.trans (hB.mono hz)
    by_cases hlm : m < l.length
    · obtain ⟨rfl, hb2⟩ := r4 (by omega)
      have hx := List.getElem?_eq_getElem hlm
      obtain ⟨vs, rfl, hat⟩ := r5 m l[m] hx
      have d0 := (hat.below hB hb2).c1
      simp only [Nat.mul_one] at d0
      have hn0 := h0h.out l[m] (by simp)
      have hyes : askOk p k l[m] = true → Hid ((l.take (m + 1)).all (askOk p k) = true) := fun h => hide (by rw [all_snoc hx, hall.out, h]; rfl)
      have hno : askOk p k l[m] = false → Hid (l.all (askOk p k) = false) := fun h => hide (all_take_false hx h)
      have hyes := hide hyes
      have hno := hide hno
      clear hat hx r5 hall
      have f0 := (s1.cell (p := ⟨B, 0, none⟩) hbl).trans e0
      generalize l[m] = n at *
      by_cases hnk : n = k
      · have hy := hyes.out (by simp [askOk, hnk])
        have t1 : (n == (k : Int)) = true := by simpa using hnk
        have t2 : (n != (k : Int)) = false := by simpa using hnk
        clear hyes hno hnk g5
        go_wp2
        exact ⟨⟨m + 1, by omega, rfl, hy, hB⟩, by simp [intOf]; omega⟩
      have t1 : (n == (k : Int)) = false := by simpa using hnk
      have t2 : (n != (k : Int)) = true := by simpa using hnk
      by_cases hgt : (k : Int) < n
      · have hn := hno.out (by simp [askOk, hnk]; omega)
        clear hyes hno hnk g5
        go_wp2
        go_ret
        exact ⟨ret_bool (by rw [hLh.out]; exact hn.out.symm), s1⟩
      obtain ⟨j, rfl⟩ : ∃ j : Nat, n = j := ⟨n.toNat, by omega⟩
      have hj : j < p.length := by omega
      obtain ⟨cs, ⟨cv', rfl, -⟩, hat⟩ := g5 j p[j] (List.getElem?_eq_getElem hj)
      obtain ⟨c0, c1, c2, c3, c4, c5⟩ := (hat.below s1 hlt).c6
      have hst : stepAt p j = p[j] := by simp [stepAt, List.getElem?_eq_getElem hj]
      have hok : askOk p k (j : Int) = (!p[j].neg && decide (p[j].max = 1)) := by
        have : (j : Int) < k := by omega
        simp [askOk, hst, hnk, this]
      rw [hok] at hyes hno
      clear hok hst hat hnk g5
      have hj' : (j : Int) < p.length := by omega
      replace hgt := Int.not_lt.1 hgt
      generalize p[j] = q at *
      obtain ⟨qneg, qkind, qmn, qmx, qstrict, qcmps⟩ := q
      simp only at c0 c1 c2 c3 c4 c5 hyes hno
      cases qneg with
      | true =>
        have hn := hno.out rfl
        clear hyes hno
        go_wp2
        go_ret
        exact ⟨ret_bool (by rw [hLh.out]; exact hn.out.symm), s1⟩
      | false =>
        by_cases hq1 : qmx = 1
        · have hy := hyes.out (by simp [hq1])
          subst hq1
          clear hyes hno
          go_wp2
          exact ⟨⟨m + 1, by omega, rfl, hy, hB⟩, by simp [intOf]; omega⟩
        · have hn := hno.out (by simp [hq1])
          have t3 : (qmx == 1) = false := by simpa using hq1
          have t4 : (qmx != 1) = true := by simpa using hq1
          clear hyes hno hq1
          go_wp2
          go_ret
          exact ⟨ret_bool (by rw [hLh.out]; exact hn.out.symm), s1⟩
    · obtain rfl : m = l.length := by omega
      have hi : Hid (l.all (askOk p k) = true) := hide (by rw [List.take_of_length_le (Nat.le_refl _)] at hall; exact hall.out)
      clear hall g5 r5
      go_wp2
      go_ret
      exact ⟨ret_bool (by rw [hLh.out]; exact hi.out.symm), s1⟩
end Go.Proofs.YtmmbblfmhcegcaaGreat

namespace Go.Proofs.YtmmbblfmhcegcaaGreat

/-- The places (from i on) at which it is not so. -/
def badFrom (f : Nat → Sp → Bool) (i : Nat) : List Sp → List Int
  | [] => []
  | s :: l => if f i s then badFrom f (i + 1) l else (i : Int) :: badFrom f (i + 1) l
theorem badFrom_append (f : Nat → Sp → Bool) (p q : List Sp) (i : Nat) : badFrom f i (p ++ q) = badFrom f i p ++ badFrom f (i + p.length) q := by
  induction p generalizing i with
  | nil => simp [badFrom]
  | cons s p ih =>
    simp only [List.cons_append, badFrom, List.length_cons]
    rw [ih, show i + (p.length + 1) = i + 1 + p.length by omega]
    split <;> simp
theorem bad_snoc {f : Nat → Sp → Bool} {p : List Sp} {k : Nat} {s : Sp} (h : p[k]? = some s) : badFrom f 0 (p.take (k + 1)) = badFrom f 0 (p.take k) ++ (if f k s then [] else [(k : Int)]) := by
  have hk := (List.getElem?_eq_some_iff.1 h).1
  have hl : (p.take k).length = k := by simp; omega
  simp only [List.take_add_one, h, Option.toList_some]
  rw [badFrom_append, hl]
  simp [badFrom]
theorem bad_prefix (f : Nat → Sp → Bool) (p : List Sp) (k : Nat) : badFrom f 0 (p.take k) <+: badFrom f 0 p := by
  conv => rhs; rw [← List.take_append_drop k p, badFrom_append]
  exact ⟨_, rfl⟩
theorem first_nil {f : Nat → Sp → Bool} {p : List Sp} {i : Nat} (h : badFrom f i p = []) : firstFrom f i p = -1 := by
  induction p generalizing i with
  | nil => rfl
  | cons s p ih =>
    simp only [badFrom] at h
    split at h
    · rename_i hf
      simp only [firstFrom, hf, if_true]
      exact ih h
    · cases h
theorem first_cons {f : Nat → Sp → Bool} {p : List Sp} {i : Nat} {x : Int} {l : List Int} (h : badFrom f i p = x :: l) : firstFrom f i p = x := by
  induction p generalizing i with
  | nil => cases h
  | cons s p ih =>
    simp only [badFrom] at h
    split at h
    · rename_i hf
      simp only [firstFrom, hf, if_true]
      exact ih h
    · rename_i hf
      simp only [firstFrom, hf, Bool.false_eq_true, if_false]
      exact (List.cons.inj h).1
theorem bad_len (f : Nat → Sp → Bool) (p : List Sp) (i : Nat) : (badFrom f i p).length ≤ p.length := by
  induction p generalizing i with
  | nil => simp [badFrom]
  | cons s p ih =>
    have := ih (i + 1)
    simp only [badFrom]
    split <;> simp <;> omega
end Go.Proofs.YtmmbblfmhcegcaaGreat
