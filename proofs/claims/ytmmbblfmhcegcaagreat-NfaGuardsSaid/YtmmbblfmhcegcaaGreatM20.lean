/- Several texts of one proof: A pattern's rows: the walk of unroll.Rows. -/
import Derived.Test.YtmmbblfmhcegcaaGreatM15

namespace Go.Proofs.YtmmbblfmhcegcaaGreat
open Go.RowKit Go.Shelf
attribute [local go_sem] Oper.semAt_some relVal relEff dT valF

theorem may_span {p : List Sp} {win : Int} (h : mayB p win = true) : Span p ∧ p.length ≤ 6 := by
  refine ⟨fun s hs => ?_, (may_whole h).2.1⟩
  obtain ⟨k, hk, rfl⟩ := List.mem_iff_getElem.1 hs
  have := may_step h (List.getElem?_eq_getElem hk)
  exact .inr ⟨this.m1, this.m2, this.m3⟩
theorem AllI.reset {Ball G : Nat} {q : List (List Int)} {v : Value} {vs : List Value} {X : World} (h : AllI Ball G q v vs X) : AllI Ball G q v vs (X.setCell ⟨Ball, 0, none⟩ v) :=
  ⟨by simpa using h.box.set_ 0 v, own_set h.row (p := ⟨Ball, 0, none⟩) (h.box.ne_own h.row (by decide)) v, fun j r l e1 e2 => own_set (h.els j r l e1 e2) (p := ⟨Ball, 0, none⟩) (h.box.ne_own (h.els j r l e1 e2) (by decide)) v⟩
theorem AllI.cells {Ball G : Nat} {q : List (List Int)} {v : Value} {vs : List Value} {X Y : World} (h : AllI Ball G q v vs X) (hc : ∀ (k : Nat) (o : Obj), X.heap[k]? = some o → o.isCells = true → Y.heap[k]? = some o) : AllI Ball G q v vs Y := by
  have own : ∀ {e : TypeId} {sz n : Nat} {u : Value} {xs : List Value}, X.ownsRow G e sz u n xs → Y.ownsRow G e sz u n xs := fun ho => ⟨ho.1, ho.2.elim .inl fun ⟨g, cap, cur, e1, e2, e3, e4⟩ => .inr ⟨g, cap, cur, e1, e2, hc _ _ e3 rfl, e4⟩⟩
  exact ⟨hc _ _ h.box rfl, own h.row, fun j r l e1 e2 => own (h.els j r l e1 e2)⟩
def allR (n₀ Ball G B base : Nat) (q : List (List Int)) (l : List Int) (v u : Value) (vs : List Value) (X Y : World) : Prop := allC n₀ Ball G B q v vs X Y ∧ OwI Y base u l
theorem allR_below {n₀ Ball G B base : Nat} {q : List (List Int)} {l : List Int} {v u : Value} {vs : List Value} {X : World} (hn : n₀ ≤ X.heap.size) : ∀ w w', allR n₀ Ball G B base q l v u vs X w → Below w.heap.size w w' → allR n₀ Ball G B base q l v u vs X w' :=
  fun w w' h hb => ⟨allC_below hn w w' h.1 hb, h.2.below hb (Nat.le_refl _)⟩
theorem rdll_nil (w : World) (B : Nat) : RdLL w B (.slice none 0 0) [] := ⟨none, 0, 0, 0, rfl, by simp, by omega, fun h => by simp at h, fun i x hx => by simp at hx⟩
def allRows (p : List Sp) (win : Int) : List (List Int) := if mayB p win then rowsL p 0 [] else []

set_option maxRecDepth 100000 in
set_option maxHeartbeats 4000000 in
theorem unroll_rows (p : List Sp) (win : Int) (v : Value) (w : World) (h : RdS w w.heap.size v p) :
    Calls Tryz.prog 23 #[ptV v win] w fun e w' => (∃ u us, e = .returned u ∧ OwLL w' w.heap.size u (allRows p win) us) ∧ Below w.heap.size w w' := by
  have hch := hide fun w1 (hb : Below w.heap.size w w1) => cright_any p win v w1 (h.below hb hb.size)
  obtain ⟨A, cap, hv⟩ := rd_form h
  subst hv
  have hX : Below w.heap.size w ((w.alloc (.cells #[.slice A p.length cap, .int .i64 win] 24)).alloc (.cells #[.slice none 0 0] 34)) := ((Below.refl _ _).alloc (Nat.le_refl _) _).alloc (by simp) _
  cases hm : mayB p win with
  | false =>
    rw [hm] at hch
    rw [show allRows p win = [] by simp [allRows, hm]]
    replace h := hide h
    have hX' := hide hX
    refine (callsIn_wide (n := 3)).1 ?_
    refine callsIn_of_wp_marks Tryz.func23 rfl trivial ?_ rfl
    simp only [Tryz.ntmps23, List.size_toArray, List.length_cons, List.length_nil, Nat.reduceAdd, Nat.reduceSub, Array.replicate_succ, Array.replicate_zero, List.push_toArray, List.append_toArray, List.nil_append, List.cons_append]
    gi_wp2_with (refine ⟨trivial, ?_⟩; gi_at_call 22; (with_reducible refine (callsIn_wide.2 (stayf (G := w.heap.size + 2) (hch.out _ hX'.out) (by simp))).mono ?_); rintro e w1 ⟨rfl, hc1, hf1, hz1, hB1⟩)
    have hb1 : Blk w1 (w.heap.size + 1) 34 #[.slice none 0 0] := (Blk.new_ (by simp) _ _).below hB1.out (by omega)
    have hb2 : Blk (w1.setCell ⟨w.heap.size + 1, 0, none⟩ (.slice none 0 0)) (w.heap.size + 1) 34 #[.slice none 0 0] := by simpa using hb1.set_ 0 (.slice none 0 0)
    refine rf_ret_list (ds := []) (v := .slice none 0 0) rfl (fun _ h => by simp at h) List.nodup_nil (fun W' hcells hbel => ?_)
    have hb3 : Blk W' (w.heap.size + 1) 34 #[.slice none 0 0] := hcells _ _ hb2 rfl
    have c3 := hb3.cell 0
    simp at c3
    exact ⟨by simp [results, Tryz.f23, go_sem, c3], ⟨_, [], rfl, OwLL.nil _ _⟩, ((hX.trans (hB1.out.mono (by omega))).setCell (p := ⟨w.heap.size + 1, 0, none⟩) (by simp) _).trans (hbel w.heap.size (fun D h => by simp at h))⟩
  | true =>
    rw [hm] at hch
    obtain ⟨hsp, hp6⟩ := may_span hm
    rw [show allRows p win = rowsL p 0 [] by simp [allRows, hm]]
    have hlen : (rowsL p 0 []).length ≤ 729 := by
      have h1 := rowsL_len hsp 0 []
      have h2 : 3 ^ p.length ≤ 3 ^ 6 := Nat.pow_le_pow_right (by omega) hp6
      have h3 : (3 : Nat) ^ 6 = 729 := by decide
      omega
    have hmem : ∀ l ∈ rowsL p 0 [], l.length ≤ 18 := fun l hl => by
      have := rowsL_mem hsp 0 [] l hl
      simp at this
      omega
    have hit := rows1_it w.heap.size (w.heap.size + 1) p win (.slice A p.length cap) hsp (by omega) p.length 0 (by omega) (by omega) []
    rw [List.drop_zero] at hit
    replace h := hide h
    have hX' := hide hX
    replace hlen := hide hlen
    replace hmem := hide hmem
    replace hit := hide hit
    generalize rowsL p 0 [] = rs at *
    refine (callsIn_wide (n := 3)).1 ?_
    refine callsIn_of_wp_marks Tryz.func23 rfl trivial ?_ rfl
    simp only [Tryz.ntmps23, List.size_toArray, List.length_cons, List.length_nil, Nat.reduceAdd, Nat.reduceSub, Array.replicate_succ, Array.replicate_zero, List.push_toArray, List.append_toArray, List.nil_append, List.cons_append]
    gi_wp2_with (first | (refine ⟨trivial, ?_⟩; gi_at_call 22; (with_reducible refine (callsIn_wide.2 (stayf (G := w.heap.size + 2) (hch.out _ hX'.out) (by simp))).mono ?_); rintro e w1 ⟨rfl, hc1, hf1, hz1, hB1⟩) | (refine ⟨trivial, ?_⟩; gi_at_call 38; (with_reducible refine (callsIn_wide.2 (rows_made win A none p.length cap 0 0 0 _)).mono ?_); rintro e w2 ⟨rfl, rfl⟩))
    have hz1' : w.heap.size + 1 < w1.heap.size := hz1
    have hb1 : Blk w1 (w.heap.size + 1) 34 #[.slice none 0 0] := (Blk.new_ (by simp) _ _).below hB1.out (by omega)
    have hB1w : Below w.heap.size w w1 := hX.trans (hB1.out.mono (by omega))
    obtain ⟨W2, hW2⟩ : ∃ W2, ((w1.alloc (.cells #[.slice A p.length cap, .int .i64 win] 24)).alloc (.cells #[.int .i64 0] 3)).alloc (.cells #[.slice none 0 0] 28) = W2 := ⟨_, rfl⟩
    rw [hW2]
    have hB2 : Below w1.heap.size w1 W2 := by rw [← hW2]; exact (((Below.refl _ _).alloc (Nat.le_refl _) _).alloc (by simp) _).alloc (by simp; omega) _
    have hz2 : W2.heap.size = w1.heap.size + 1 + 1 + 1 := by rw [← hW2]; simp
    have g1 : Blk W2 w1.heap.size 24 #[.slice A p.length cap, .int .i64 win] := by rw [← hW2]; exact ((Blk.new_ rfl _ _).alloc _).alloc _
    have g2 : Blk W2 (w1.heap.size + 1) 3 #[.int .i64 0] := by rw [← hW2]; exact (Blk.new_ (by simp) _ _).alloc _
    have g3 : Blk W2 (w1.heap.size + 1 + 1) 28 #[.slice none 0 0] := by rw [← hW2]; exact Blk.new_ (by simp) _ _
    have hb2 := hb1.below hB2 hb1.lt
    have hBw2 : Below w.heap.size w W2 := hB1w.trans (hB2.mono (by omega))
    have hcons : ∀ k, ConsB (w.heap.size + 1) W2 k → k = w.heap.size + 1 := by
      rintro k (rfl | ⟨n, c, e⟩)
      · rfl
      · rw [hb2.cell 0] at e
        simp at e
    clear hW2 hb1 hX hX' hc1 hf1 hB1 hch
    have hpre : RowsPre w.heap.size (w.heap.size + 1) W2 (w1.heap.size + 1) w1.heap.size (w1.heap.size + 1 + 1) p win (.slice A p.length cap) 0 [] (.slice none 0 0) :=
      ⟨hBw2.size, h.out.below hBw2 (Nat.le_refl _), fun k hk => by rw [hcons k hk]; omega, ⟨_, _, _, hb2⟩, g2, g1, g3, ⟨by omega, fun hk => by have := hcons _ hk; omega⟩, ⟨by omega, fun hk => by have := hcons _ hk; omega⟩, ⟨by omega, fun hk => by have := hcons _ hk; omega⟩, ⟨0, OwI.nil _ _⟩, fun g hg => by cases hg⟩
    have hit2 := hit.out _ _ _ _ W2 (by simp) hpre
    replace hpre := hide hpre
    clear hit g1 g2 g3 hcons
    refine' rf_it (gf := 45) (lb := #[.pointer (some ⟨w1.heap.size + 1, 0, none⟩), .pointer (some ⟨w1.heap.size, 0, none⟩), .pointer (some ⟨w1.heap.size + 1 + 1, 0, none⟩)]) rfl (enters_of Tryz.func45 (by kernel_rfl) rfl) hit2 (Below.refl _ _) KpB.trans
      (fun Y j o o' hj ho hc => KpB.putObj (by omega) (by omega) ho hc)
      (fun x v _ X Y row ⟨base, hs⟩ hg hr => ⟨base, owi_grown hs hg (fun r e => (hr r e).2)⟩) (fun q X => ∃ v vs, AllI (w.heap.size + 1) W2.heap.size q v vs X ∧ Below w.heap.size w X ∧ W2.heap.size ≤ X.heap.size) ?own ⟨_, [], ⟨hb2, World.ownsRow_nil _ _ _ _, fun j r l e => by simp at e⟩, hBw2, Nat.le_refl _⟩ _ ?assign ?body ?done
    case own =>
      rintro q X Y row ⟨v, vs, h1, h2, h3⟩ hg hr
      exact ⟨v, vs, h1.grown hg hr, h2.trans ((Below.refl _ X).grown hg (by omega) (fun k e => by have := (hr k e).1; omega)), Nat.le_trans h3 hg.size⟩
    case assign =>
      intro l' v' X K hK
      gi_wp2
      exact hK
    case body =>
      rintro l' pre x v X hl' hpx ⟨v0, vs, hAll, hBX, hsz⟩ hrd hszX
      obtain ⟨base0, hrd⟩ := hrd
      obtain ⟨Av, cv, rfl⟩ := hrd.form
      obtain ⟨A0, k0, rfl⟩ := own_form hAll.row
      have hpl : pre.length + 1 ≤ 729 := by
        have := hpx.length_le
        have h2 := hlen.out
        simp at this
        omega
      have hxl : x.length ≤ 18 := hmem.out x (hpx.subset (by simp))
      have hvl : vs.length = pre.length := by simpa using hAll.row.1
      clear hit2
      gi_wp2
      have hCW : allR w.heap.size (w.heap.size + 1) W2.heap.size W2.heap.size base0 pre x (.slice A0 pre.length k0) (.slice Av x.length cv) vs X X := ⟨⟨KpB.refl _, KeepsFrom.refl _ _, hAll, hsz⟩, hrd⟩
      have hC0 := allR_below (Nat.le_trans hBw2.size hsz) _ _ hCW (Below.refl _ _).drew
      generalize hcc : allR w.heap.size (w.heap.size + 1) W2.heap.size W2.heap.size base0 pre x (.slice A0 pre.length k0) (.slice Av x.length cv) vs X = C at hCW hC0
      have hCb : ∀ a b, C a → Below a.heap.size a b → C b := by rw [← hcc]; exact allR_below (Nat.le_trans hBw2.size hsz)
      have hC1 : ∀ y, C y → allR w.heap.size (w.heap.size + 1) W2.heap.size W2.heap.size base0 pre x (.slice A0 pre.length k0) (.slice Av x.length cv) vs X y := by rw [← hcc]; exact fun _ h => h
      have hC2 : ∀ y, allR w.heap.size (w.heap.size + 1) W2.heap.size W2.heap.size base0 pre x (.slice A0 pre.length k0) (.slice Av x.length cv) vs X y → C y := by rw [← hcc]; exact fun _ h => h
      have f2 : ∀ n, (someW C X n).cell? ⟨w.heap.size + 1, 0, none⟩ = some (.slice A0 pre.length k0) := fun n => by
        rw [(hC1 _ (someW_is n hCW)).1.2.2.1.box.cell 0]
        rfl
      replace hCW := hide hCW
      have hok := hide (allL_ok W2.heap.size pre.length X.heap.size (.slice A0 pre.length k0) vs x)
      replace hz2 := hide hz2
      refine wp_region_roundT (l' := [_, _, _, _, _]) (ot := _) rfl C (allL W2.heap.size pre.length X.heap.size (.slice A0 pre.length k0) vs x) [(3, [2]), (4, [3])] hC0 (by kernel_rfl) (fun ⟨_, _, h⟩ => by
        have h' : Exit.outgrown = Exit.normal ∧ _ := h
        cases h'.1) (by kernel_rfl) (by kernel_rfl) (fun q hq => (hok.out q hq).inh) (by kernel_rfl) rfl ?_
      repeat (refine wpRel_one rfl (fun K hK => ?_); go_simp; refine hK _ _ ?_; clear hK K)
      refine wpTab_eff (catF W2.heap.size x) rfl (fun K hK => ?_)
      go_simp
      refine ⟨fun n => ?_, fun v hv => ?_⟩
      · have hCn := hC1 _ (someW_is n hCW.out)
        refine inv_call hCW.out hCb hok.out ((clone_ints x _ _ hCn.2.rd (by omega)).mono ?_)
        rintro e w' ⟨⟨r, rfl, ho⟩, hb⟩
        obtain ⟨A, c, e⟩ := ho.form
        exact ⟨⟨r, rfl, ⟨A, _, c, e⟩, ho.mono hCn.1.2.2.2⟩, hb⟩
      obtain ⟨Ac, nc, cc, rfl⟩ := hv
      refine hK _ _ ?_
      clear hK K
      repeat (refine wpRel_one rfl (fun K hK => ?_); go_simp; refine hK _ _ ?_; clear hK K)
      refine wpTab_eff (oneF W2.heap.size x) rfl (fun K hK => ?_)
      go_simp
      refine ⟨fun n ho => ?_, fun v hv => ?_⟩
      · have ha := inv_alloc hCW.out hCb hok.out (.cells #[.slice Ac nc cc] 28) n
        have hCn := hC1 _ (someW_is n hCW.out)
        have ho' : OwI (someW C X n) W2.heap.size (.slice Ac nc cc) x := ho
        exact ⟨ha.1, ha.2, ⟨_, rfl⟩, _, _, rfl, hCn.1.2.2.2, Blk.new_ rfl _ _, ho'.alloc _⟩
      obtain ⟨g3, rfl⟩ := hv
      refine hK _ _ ?_
      clear hK K
      repeat (refine wpRel_one rfl (fun K hK => ?_); go_simp; refine hK _ _ ?_; clear hK K)
      refine wpTab_eff (appF W2.heap.size pre.length X.heap.size (.slice A0 pre.length k0) vs x) rfl (fun K hK => ?_)
      rw [if_pos (by rfl)]
      refine ⟨fun y hy hΓ => ?_, fun v hv => ?_⟩
      · obtain ⟨n, rfl⟩ := hy
        obtain ⟨g, r, e1, e2, e3, e4⟩ : (oneF W2.heap.size x).2 (.slice (some ⟨g3, 0, none⟩) 1 1) (someW C X n) := hΓ (3, _) (List.mem_cons_self ..) (show (3 : Nat) ∈ [3] by decide)
        have eg : g3 = g := by simpa using e1
        subst eg
        have hCn := hC1 _ (someW_is n hCW.out)
        obtain ⟨Ar, cr, hre⟩ := e4.form
        obtain ⟨i0, hi, hy0, hy1, hy2⟩ := info_parts row_info
        obtain ⟨v', w', hrun, hrow, hb, hO, hgr, hat⟩ := run_app_row_g (t := 34) (ty := 34) Tryz.underlying34 hi hy0 hy1 hy2 rfl hCn.1.2.2.1.row hCn.1.2.2.2 ⟨g3, 0, none⟩ 1 [r] rfl (blk_news e3) (by intro u hu; rw [List.mem_singleton.1 hu, hre]; rfl) (by unfold maxLen; omega) (by omega)
        have hsY := hCn.1.1.size
        refine relEff_append (s := .tmp 9) (x := .tmp 12) rfl rfl rfl hrun ⟨⟨w', (someW_of (hC2 _ ⟨allC_app hCn.1 hO hgr hb hBw2.size, hO.row_other hCn.2 (by decide)⟩)).symm⟩, allL_ovr hO (by rw [hvl, Nat.mul_one]) e4, own_form hrow, ⟨r, hrow, hO.row_other e4 (by decide)⟩, fun k hk => ?_⟩
        rcases hat with e | e
        · exact .inl (by rw [← e]; exact hk)
        · rw [e] at hk
          have := Option.some.inj hk
          exact .inr (by omega)
      obtain ⟨A4, k4, rfl⟩ := hv
      refine hK _ _ ?_
      clear hK K
      repeat (refine wpRel_one rfl (fun K hK => ?_); go_simp; refine hK _ _ ?_; clear hK K)
      refine wpRel_nil ?_
      rintro w7 ⟨n7, rfl⟩ hΓ
      have happ : (appF W2.heap.size pre.length X.heap.size (.slice A0 pre.length k0) vs x).2 (.slice A4 (pre.length + 1) k4) (someW C X n7) := hΓ _ (List.mem_cons_self ..)
      have hC7 := hC1 _ (someW_is n7 hCW.out)
      clear hΓ f2 hok hCW hC0 hcc hCb hC1 hC2
      generalize someW C X n7 = w7 at *
      have hst := all_store hAll hC7.1 (by omega) happ hvl
      have d0 := hC7.1.2.2.1.box.cell 0
      have df := hC7.1.2.2.1.box.frozen 0
      simp at d0
      replace hst := hide hst
      clear hAll hC7 happ hrd
      go_simp
      obtain ⟨r, hr⟩ := hst.out.2.2
      exact ⟨rfl, hst.out.2.1, hst.out.1, ⟨_, _, hr, hBX.trans hst.out.1.below, Nat.le_trans hsz hst.out.1.size⟩⟩
    case done =>
      rintro D X hD ⟨v, vs, hAll, hBX, hsz⟩ hKD
      obtain ⟨A0, k0, rfl⟩ := own_form hAll.row
      have d0 := hAll.box.cell 0
      have df := hAll.box.frozen 0
      simp at d0
      clear hit2
      replace hpre := hide hpre
      have hAll' := hide hAll
      have hKD' := hide hKD
      clear hAll hKD
      gi_wp2
      have hdef : DefOk (X.setCell ⟨w.heap.size + 1, 0, none⟩ (.slice A0 rs.length k0)) [D] := by
        intro D' h
        rw [List.mem_singleton.1 h]
        exact (KeepsOthers.setCell X ⟨w.heap.size + 1, 0, none⟩ _).same D _ hKD'.out rfl
      refine rf_ret_list (ds := [D]) (v := .slice A0 rs.length k0) rfl hdef (by simp) (fun W' hcells hbel => ?_)
      have hAW := hAll'.out.reset.cells hcells
      have c3 := hAW.box.cell 0
      simp at c3
      exact ⟨by simp [results, Tryz.f23, go_sem, c3], ⟨_, vs, rfl, own_mono hAW.row (Nat.le_trans hBw2.size (Nat.le_refl _)), fun j r l h1 h2 => (hAW.els j r l h1 h2).mono hBw2.size⟩, (hBX.setCell (p := ⟨w.heap.size + 1, 0, none⟩) (by simp) _).trans (hbel w.heap.size (fun D' h => by rw [List.mem_singleton.1 h]; omega))⟩
end Go.Proofs.YtmmbblfmhcegcaaGreat
