/- Several texts of one proof: A pattern's automaton: the walk of nfa.New. -/
import Derived.Test.YtmmbblfmhcegcaaGreatM19
import Derived.Test.YtmmbblfmhcegcaaGreatM20

namespace Go.Proofs.YtmmbblfmhcegcaaGreat
open Go.RowKit Go.Shelf
attribute [local go_sem] Oper.semAt_some relVal relEff dT valF

set_option maxRecDepth 10000 in
theorem frame_all (arr : Array Value) (hs : arr.size = 108) : ∃ f : Nat → Value, arr = #[f 0, f 1, f 2, f 3, f 4, f 5, f 6, f 7, f 8, f 9, f 10, f 11, f 12, f 13, f 14, f 15, f 16, f 17, f 18, f 19, f 20, f 21, f 22, f 23, f 24, f 25, f 26, f 27, f 28, f 29, f 30, f 31, f 32, f 33, f 34, f 35, f 36, f 37, f 38, f 39, f 40, f 41, f 42, f 43, f 44, f 45, f 46, f 47, f 48, f 49, f 50, f 51, f 52, f 53, f 54, f 55, f 56, f 57, f 58, f 59, f 60, f 61, f 62, f 63, f 64, f 65, f 66, f 67, f 68, f 69, f 70, f 71, f 72, f 73, f 74, f 75, f 76, f 77, f 78, f 79, f 80, f 81, f 82, f 83, f 84, f 85, f 86, f 87, f 88, f 89, f 90, f 91, f 92, f 93, f 94, f 95, f 96, f 97, f 98, f 99, f 100, f 101, f 102, f 103, f 104, f 105, f 106, f 107] ∧ ∀ i v, arr[i]? = some v → f i = v := by
  refine ⟨fun i => arr.getD i undef, ?_, fun i v h => by simp [Array.getD_eq_getD_getElem?, h]⟩
  have h1 : arr = ((List.range 108).map fun i => arr.getD i undef).toArray := by
    apply Array.ext_getElem?
    intro i
    by_cases hi : i < 108
    · simp [hi, Array.getD_eq_getD_getElem?, Array.getElem?_eq_getElem (show i < arr.size by omega)]
    · simp [hi, Array.getElem?_eq_none (show arr.size ≤ i by omega)]
  exact h1
theorem frameO (arr : Array Value) {v1 v2 v3 v23 v24 v25 : Value} (hs : arr.size = 108) (h1 : arr[1]? = some v1) (h2 : arr[2]? = some v2) (h3 : arr[3]? = some v3) (h23 : arr[23]? = some v23) (h24 : arr[24]? = some v24) (h25 : arr[25]? = some v25) : ∃ f : Nat → Value, arr = #[f 0, v1, v2, v3, f 4, f 5, f 6, f 7, f 8, f 9, f 10, f 11, f 12, f 13, f 14, f 15, f 16, f 17, f 18, f 19, f 20, f 21, f 22, v23, v24, v25, f 26, f 27, f 28, f 29, f 30, f 31, f 32, f 33, f 34, f 35, f 36, f 37, f 38, f 39, f 40, f 41, f 42, f 43, f 44, f 45, f 46, f 47, f 48, f 49, f 50, f 51, f 52, f 53, f 54, f 55, f 56, f 57, f 58, f 59, f 60, f 61, f 62, f 63, f 64, f 65, f 66, f 67, f 68, f 69, f 70, f 71, f 72, f 73, f 74, f 75, f 76, f 77, f 78, f 79, f 80, f 81, f 82, f 83, f 84, f 85, f 86, f 87, f 88, f 89, f 90, f 91, f 92, f 93, f 94, f 95, f 96, f 97, f 98, f 99, f 100, f 101, f 102, f 103, f 104, f 105, f 106, f 107] := by
  obtain ⟨f, he, hf⟩ := frame_all arr hs
  obtain rfl := hf 1 _ h1
  obtain rfl := hf 2 _ h2
  obtain rfl := hf 3 _ h3
  obtain rfl := hf 23 _ h23
  obtain rfl := hf 24 _ h24
  obtain rfl := hf 25 _ h25
  exact ⟨f, he⟩
theorem frameI (arr : Array Value) {v1 v2 v3 v5 v6 v23 v24 v25 v29 v30 v31 : Value} (hs : arr.size = 108) (h1 : arr[1]? = some v1) (h2 : arr[2]? = some v2) (h3 : arr[3]? = some v3) (h5 : arr[5]? = some v5) (h6 : arr[6]? = some v6) (h23 : arr[23]? = some v23) (h24 : arr[24]? = some v24) (h25 : arr[25]? = some v25) (h29 : arr[29]? = some v29) (h30 : arr[30]? = some v30) (h31 : arr[31]? = some v31) : ∃ f : Nat → Value, arr = #[f 0, v1, v2, v3, f 4, v5, v6, f 7, f 8, f 9, f 10, f 11, f 12, f 13, f 14, f 15, f 16, f 17, f 18, f 19, f 20, f 21, f 22, v23, v24, v25, f 26, f 27, f 28, v29, v30, v31, f 32, f 33, f 34, f 35, f 36, f 37, f 38, f 39, f 40, f 41, f 42, f 43, f 44, f 45, f 46, f 47, f 48, f 49, f 50, f 51, f 52, f 53, f 54, f 55, f 56, f 57, f 58, f 59, f 60, f 61, f 62, f 63, f 64, f 65, f 66, f 67, f 68, f 69, f 70, f 71, f 72, f 73, f 74, f 75, f 76, f 77, f 78, f 79, f 80, f 81, f 82, f 83, f 84, f 85, f 86, f 87, f 88, f 89, f 90, f 91, f 92, f 93, f 94, f 95, f 96, f 97, f 98, f 99, f 100, f 101, f 102, f 103, f 104, f 105, f 106, f 107] := by
  obtain ⟨f, he, hf⟩ := frame_all arr hs
  obtain rfl := hf 1 _ h1
  obtain rfl := hf 2 _ h2
  obtain rfl := hf 3 _ h3
  obtain rfl := hf 5 _ h5
  obtain rfl := hf 6 _ h6
  obtain rfl := hf 23 _ h23
  obtain rfl := hf 24 _ h24
  obtain rfl := hf 25 _ h25
  obtain rfl := hf 29 _ h29
  obtain rfl := hf 30 _ h30
  obtain rfl := hf 31 _ h31
  exact ⟨f, he⟩

theorem addRows_succ {p : List Sp} {rs : List (List Int)} {j : Nat} (h : j < rs.length) : addRows p (rs.take (j + 1)) = addRow p (addRows p (rs.take j)) rs[j] := by
  rw [addRows, addRows, List.take_add_one, List.getElem?_eq_getElem h, List.foldl_append]
  rfl
theorem rowAt_get {row : List Int} {k : Nat} (h : k < row.length) : rowAt row k = row[k] := by
  simp [rowAt, List.getD_eq_getElem?_getD, List.getElem?_eq_getElem h]

set_option maxRecDepth 100000 in
set_option maxHeartbeats 16000000 in
theorem nnew_any (p : List Sp) (win : Int) (v : Value) (w : World) (h : RdS w w.heap.size v p) (hm : mayB p win = true) :
    Calls Tryz.prog 7 #[ptV v win] w fun e w' => (∃ lv av, e = .returned (.tuple #[atV lv av win, .int .i64 0]) ∧ RdT w' w'.heap.size lv (newL p) ∧ RdI w' w'.heap.size av (afterL p)) ∧ Below w.heap.size w w' := by
  have hF := hide (may_plain hm).facts
  have hR := hide (may_plain hm).rows
  have hch := hide fun w1 (hb : Below w.heap.size w w1) => cright_any p win v w1 (h.below hb hb.size)
  have hun := hide fun w1 (hb : Below w.heap.size w w1) => unroll_rows p win v w1 (h.below hb hb.size)
  have hpo := hide fun w1 (hb : Below w.heap.size w w1) => positive_any p win v w1 (h.below hb hb.size) (by have := (may_plain hm).len; omega)
  rw [hm] at hch
  rw [show allRows p win = rowsL p 0 [] by simp [allRows, hm]] at hun
  have hrs := hide (hide hm)
  obtain ⟨A, cap, hv⟩ := rd_form h
  subst hv
  replace h := hide h
  have hX := hide (((Below.refl w.heap.size w).alloc (Nat.le_refl _) (.cells #[.slice A p.length cap, .int .i64 win] 24)).alloc (by simp) (.cells #[.slice none 0 0, .slice none 0 0, .int .i64 0] 30))
  have bX1 := hide ((Blk.new_ (w := w) rfl 24 #[.slice A p.length cap, .int .i64 win]).alloc (.cells #[.slice none 0 0, .slice none 0 0, .int .i64 0] 30))
  have bX2 := hide (Blk.new_ (w := w.alloc (.cells #[.slice A p.length cap, .int .i64 win] 24)) (by simp : w.heap.size + 1 = _) 30 #[.slice none 0 0, .slice none 0 0, .int .i64 0])
  refine (callsIn_wide (n := 3)).1 ?_
  refine callsIn_of_wp_marks Tryz.func7 rfl trivial ?_ rfl
  simp only [Tryz.ntmps7, List.size_toArray, List.length_cons, List.length_nil, Nat.reduceAdd, Nat.reduceSub, Array.replicate_succ, Array.replicate_zero, List.push_toArray, List.append_toArray, List.nil_append, List.cons_append]
  gi_upto_region 3 with (refine ⟨trivial, ?_⟩; gi_at_call 22; (with_reducible refine (callsIn_wide.2 (stayf (G := w.heap.size + 2) (hch.out _ hX.out) (by simp))).mono ?_); rintro e w1 ⟨rfl, hc1, hf1, hz1, hB1⟩)
  have b1 := bX1.out.below hB1.out (by omega)
  have b2 := bX2.out.below hB1.out (by omega)
  have hBw1 := hide (hX.out.trans (hB1.out.mono (by omega)))
  clear hc1 hf1 hB1 hX bX1 bX2 hch
  have c0 := b1.cell 0
  have c1 := b1.cell 1
  have d2 := b2.cell 2
  have df := b2.frozen 2
  simp at c0 c1 d2
  have hB2 := hide (hBw1.out.setCell (p := ⟨w.heap.size + 1, 2, none⟩) (by simp) (.int .i64 win))
  have b1' := hide (b1.far (p := ⟨w.heap.size + 1, 2, none⟩) (by simp) (.int .i64 win))
  have b2' := hide (b2.set_ 2 (.int .i64 win))
  replace b1 := hide b1
  replace b2 := hide b2
  replace hz1 := hide hz1
  gi_wp2_with (refine ⟨trivial, ?_⟩; gi_at_call 23; (with_reducible refine (callsIn_wide.2 (hun.out _ hB2.out)).mono ?_); rintro e Y1 ⟨⟨u, us, rfl, hown⟩, hB3⟩; obtain ⟨Ar, cr, hu⟩ := own_form hown.row; subst hu)
  have hz2 : w.heap.size + 2 ≤ (w1.setCell ⟨w.heap.size + 1, 2, none⟩ (.int .i64 win)).heap.size := by simpa [World.setCell] using hz1.out
  have hzY : w.heap.size + 2 ≤ Y1.heap.size := Nat.le_trans hz2 hB3.size
  have hownY := hide (show OwLL Y1 (w.heap.size + 2) _ _ us from ⟨own_mono hown.row hz2, fun j r l e1 e2 => (hown.els j r l e1 e2).mono hz2⟩)
  have hBY : Below w.heap.size w Y1 := hB2.out.trans (hB3.mono (by omega))
  have b1Y := b1'.out.below hB3 (by omega)
  have b2Y : Blk Y1 (w.heap.size + 1) 30 #[.slice none 0 0, .slice none 0 0, .int .i64 win] := by simpa using b2'.out.below hB3 (by omega)
  clear hown hB3 c0 c1 d2 df b1 b2 b1' b2' hB2 hun hBw1 hz1 hz2
  have hrl := hide hR.out.some_
  have hp6 := (may_plain hm).len
  have hrn := hR.out.len
  have hnew : Hid (newL p = addRows p (rowsL p 0 [])) := hide rfl
  generalize rowsL p 0 [] = rs at *
  have hN0 : NewI w.heap.size Y1 win (addRows p (rs.take 0)) (.slice none 0 0) [] Y1 := ⟨World.grownBy.refl _ _, b2Y, World.ownsRow_nil _ _ _ _, by simp, by simp [addRows]⟩
  refine wpIn_loop (fun a W => ∃ (j : Nat) (ds : List Nat) (sv : Value) (zs : List (St × Value)), j ≤ rs.length ∧ a.defers = ds.map coll ∧ a.tmps.size = 108 ∧ (a.tmps[1]? = some (.pointer (some ⟨w.heap.size, 0, none⟩)) ∧ a.tmps[2]? = some (.pointer (some ⟨w.heap.size + 1, 0, none⟩)) ∧ a.tmps[3]? = some (.int .i64 0) ∧ a.tmps[23]? = some (.slice Ar rs.length cr) ∧ a.tmps[24]? = some (.int .i64 rs.length) ∧ a.tmps[25]? = some (.int .i64 j)) ∧
    NewI w.heap.size Y1 win (addRows p (rs.take j)) sv zs W ∧ DefOk W ds ∧ ds.Nodup ∧ (∀ D ∈ ds, Y1.heap.size ≤ D) ∧ (addRows p (rs.take j)).length ≤ 20 * j) (fun a _ => rs.length - (intOf (a.tmps.getD 25 undef)).toNat) ?_ ?_
  · exact ⟨0, [], .slice none 0 0, [], by omega, rfl, rfl, ⟨rfl, rfl, rfl, rfl, rfl, rfl⟩, hN0, fun _ h => by simp at h, List.Pairwise.nil, fun _ h => by simp at h, by simp [addRows]⟩
  clear hN0 b2Y
  rintro ⟨tmps, dfs⟩ wr ⟨j, ds, sv, zs, hj, hds, hsz, ⟨t1, t2, t3, t23, t24, t25⟩, hN, hdef, hnd, hge, hlen⟩
  obtain ⟨f, rfl⟩ := frameO tmps hsz t1 t2 t3 t23 t24 t25
  obtain rfl : dfs = ds.map coll := hds
  clear hsz t1 t2 t3 t23 t24 t25
  by_cases hlt : j < rs.length
  · obtain ⟨g, cap', Aw, cw, hu, hcap, hgG, hgY, hcellY, hrowY⟩ := hownY.out.at hlt
    injection hu with hu1 hu2 hu3
    subst hu1 hu3
    have hc := (World.cell?_of_block (a := ⟨g, j, none⟩) (hN.grow.block g hgY (fun e => by have := Option.some.inj e; omega))).trans hcellY
    have hadd := hide (addRows_succ (p := p) hlt)
    have hr9 := hrl.out rs[j] (List.getElem_mem hlt)
    have hzr := hN.grow.size
    clear hcellY hrl
    generalize rs[j] = row at *
    generalize hL0 : addRows p (rs.take j) = L0 at *
    obtain ⟨ga, ca, hge1, hga1, hga2⟩ := hrowY.form1 hr9.1
    injection hge1 with hge2 _ hge3
    subst hge2 hge3
    have hrc := hide fun (k : Nat) (hk : k < row.length) => show Y1.cell? ⟨ga, k, none⟩ = some (.int .i64 (rowAt row k)) from by
      have := World.ownsRow.cells (g := ga) hrowY rfl k (.int .i64 row[k]) (by simp [List.getElem?_eq_getElem hk])
      rw [Addr.add_lit] at this
      rw [rowAt_get hk]
      simpa using this
    have hrow9 := hide fun (k : Nat) (hk : k < row.length) => show 0 ≤ rowAt row k ∧ rowAt row k < p.length from by
      rw [rowAt_get hk]
      exact hr9.2.2 _ (List.getElem_mem hk)
    have hr20 := hr9.2.1
    have hrne : 0 < row.length := List.length_pos_iff.2 hr9.1
    have hI0 := hide (InnI.start (p := p) (row := row) (j := j) hN ((Below.refl _ _).alloc (Nat.le_refl _) (.cells #[.int .i64 (-1)] 3)) (Nat.le_refl _) (Blk.new_ rfl _ _) hdef hnd hge hlen)
    clear hr9 hrowY
    replace hgG := hide hgG
    have hgr : g < wr.heap.size := by omega
    have hji : (j : Int) < rs.length := by omega
    replace hL0 := hide hL0
    replace hN := hide hN
    replace b1Y := hide b1Y
    clear hdef hnd hge hlen
    gi_wp2
    clear hc
    refine wpIn_loop (fun a W => ∃ (k : Nat) (ds : List Nat) (sv : Value) (zs : List (St × Value)), k ≤ row.length ∧ a.defers = ds.map coll ∧ a.tmps.size = 108 ∧ (a.tmps[1]? = some (.pointer (some ⟨w.heap.size, 0, none⟩)) ∧ a.tmps[2]? = some (.pointer (some ⟨w.heap.size + 1, 0, none⟩)) ∧ a.tmps[3]? = some (.int .i64 0) ∧ a.tmps[5]? = some (.slice (some ⟨ga, 0, none⟩) row.length cw) ∧ a.tmps[6]? = some (.pointer (some ⟨wr.heap.size, 0, none⟩)) ∧ a.tmps[23]? = some (.slice (some ⟨g, 0, none⟩) rs.length cr) ∧ a.tmps[24]? = some (.int .i64 rs.length) ∧ a.tmps[25]? = some (.int .i64 j) ∧ a.tmps[29]? = some (.slice (some ⟨ga, 0, none⟩) row.length cw) ∧ a.tmps[30]? = some (.int .i64 row.length) ∧ a.tmps[31]? = some (.int .i64 k)) ∧
      InnI w.heap.size wr.heap.size j Y1 win p L0 row k sv zs ds W) (fun a _ => row.length - (intOf (a.tmps.getD 31 undef)).toNat) ?_ ?_
    · exact ⟨0, ds, sv, zs, by omega, rfl, rfl, ⟨rfl, rfl, rfl, rfl, rfl, rfl, rfl, rfl, rfl, rfl, rfl⟩, hI0.out⟩
    clear hI0
    rintro ⟨tmps2, dfs2⟩ W ⟨k, ds2, sv2, zs2, hk, hds2, hsz2, ⟨t1, t2, t3, t5, t6, t23, t24, t25, t29, t30, t31⟩, hI⟩
    obtain ⟨f2, rfl⟩ := frameI tmps2 hsz2 t1 t2 t3 t5 t6 t23 t24 t25 t29 t30 t31
    obtain rfl : dfs2 = ds2.map coll := hds2
    clear hsz2 t1 t2 t3 t5 t6 t23 t24 t25 t29 t30 t31
    by_cases hlk : k < row.length
    · obtain ⟨Asv, csv, hsv⟩ := hI.new.form
      subst hsv
      have hzW := hI.new.grow.size
      have hrd := hI.new.rd
      have hbx := hI.box
      have hpat : Blk W w.heap.size 24 #[.slice A p.length cap, .int .i64 win] := (hI.new.grow.block _ (by omega) (fun e => by have := Option.some.inj e; omega)).trans b1Y.out
      have hpos := hI.new.box
      have hro := (hI.new.grow.block ga hga2 (fun e => by have := Option.some.inj e; omega))
      have hcx : W.cell? ⟨ga, k, none⟩ = some (.int .i64 (rowAt row k)) := (World.cell?_of_block (a := ⟨ga, k, none⟩) hro).trans (hrc.out k hlk)
      have hx9 := hrow9.out k hlk
      have hlen := hI.len
      have hlo := hI.lo
      have hhi := hI.hi
      obtain ⟨fi, hfi⟩ : ∃ fi, findS (goRow p L0 row k).1 (goRow p L0 row k).2 (rowAt row k) = fi := ⟨_, rfl⟩
      have hcall := hide fun W' (hb : Below W.heap.size W W') (hs8 : Blk W' W.heap.size 3 #[.int .i64 (rowAt row k)]) => index_any (goRow p L0 row k).1 _ (goRow p L0 row k).2 (rowAt row k) wr.heap.size W.heap.size W' (hrd.below hb hb.size) (hbx.below hb hbx.lt) hs8
      rw [hfi] at hcall
      have hB8 := hide ((Below.refl W.heap.size W).alloc (Nat.le_refl _) (.cells #[.int .i64 (rowAt row k)] 3))
      have hb8 := hide (Blk.new W 3 #[.int .i64 (rowAt row k)])
      have hki : (k : Int) < row.length := by omega
      have hgaW : ga < W.heap.size := by omega
      have hnW : w.heap.size + 1 < W.heap.size := by omega
      have e0 := hpos.cell 0
      simp at e0
      obtain ⟨x, hx⟩ : ∃ x, rowAt row k = x := ⟨_, rfl⟩
      obtain ⟨ah, hah⟩ : ∃ ah, (goRow p L0 row k).2 = ah := ⟨_, rfl⟩
      obtain ⟨L, hL⟩ : ∃ L, (goRow p L0 row k).1 = L := ⟨_, rfl⟩
      rw [hx] at hcx hx9 hcall hB8 hb8 hfi
      rw [hL] at hlen hhi hrd hfi hcall e0 hpos hI
      rw [hah] at hlo hhi hbx hfi
      replace hfi := hide hfi
      replace hah := hide hah
      replace hL := hide hL
      replace hx := hide hx
      replace hro := hide hro
      replace hI := hide hI
      replace hbx := hide hbx
      replace hpat := hide hpat
      replace hpos := hide hpos
      by_cases hneg : fi < 0
      · gi_wp2_with (refine ⟨trivial, ?_⟩; gi_at_call 25; (with_reducible refine (callsIn_wide.2 (hcall.out _ hB8.out hb8.out)).mono ?_); rintro e W2 ⟨rfl, hB2⟩)
        have hBW2 : Below W.heap.size W W2 := hB8.out.trans (hB2.mono (by simp))
        have hz2 := hBW2.size
        have hwW2 : Below w.heap.size w W2 := (hBY.trans (hI.out.new.base (by omega))).trans (hBW2.mono (by omega))
        obtain ⟨xn, rfl⟩ : ∃ n : Nat, x = n := ⟨x.toNat, by omega⟩
        have hxp : xn < p.length := by omega
        obtain ⟨A', cap', b, off, ev, -, -, h4, h5⟩ := h.out
        injection ev with ev1 _ ev3
        subst ev3
        obtain ⟨rfl, hb⟩ := h4 (by omega)
        subst ev1
        obtain ⟨cs, ⟨cv, rfl, -⟩, hat⟩ := h5 xn p[xn] (List.getElem?_eq_getElem hxp)
        have y4 := (hat.below hwW2 hb).c6.2.2.2.2.1
        have y8 := (hb8.out.below hB2 (by simp)).one
        have y6 := (hbx.out.below hBW2 hbx.out.lt).one
        have yp := (hpat.out.below hBW2 (by omega)).cell 0
        simp at yp
        have hst := hide (show (stepAt p xn).strict = p[xn].strict by rw [stepAt_eq (List.getElem?_eq_getElem hxp)])
        have i1 : w.heap.size < W2.heap.size := by omega
        have i2 : W.heap.size < W2.heap.size := Nat.lt_of_lt_of_le (by simp) hB2.size
        have i3 : wr.heap.size < W2.heap.size := Nat.lt_of_lt_of_le hbx.out.lt hz2
        have i4 : b < W2.heap.size := by omega
        clear hat h4 h5 hcall hB8 e0 hcx
        generalize p[xn].strict = st at *
        replace hB2 := hide hB2
        replace hBW2 := hide hBW2
        replace hwW2 := hide hwW2
        have r8 := fun n => (belC_cell W2 n 0 i2).trans y8
        have r6 := fun n => (belC_cell W2 n 0 i3).trans y6
        have rp := fun n => (belC_cell W2 n 0 i1).trans yp
        have r4 := fun n => (belC_cell W2 n (off + xn * 6 + 4) i4).trans y4
        refine wp_region_wideT (l' := [_, _, _, _, _, _, _, _, _, _, _]) (ot := _) rfl (belC W2) [(10, ptrF 41 W2.heap.size #[.int .i64 0, .int .i64 0, .bool false, .slice none 0 0, .int .i64 0, .bool false])] [] (belC_drew W2) (by kernel_rfl) (fun ⟨_, _, h⟩ => by
          have h' : (∃ lv av, Ending.outgrown = Ending.returned (Value.tuple #[atV lv av win, .int .i64 0]) ∧ _) ∧ _ := h
          obtain ⟨⟨_, _, h2, _⟩, _⟩ := h'
          cases h2) (by kernel_rfl) (by kernel_rfl) (fun q hq => by
          rw [List.mem_singleton.1 hq]
          exact (ptrF_ok _ _ _).inh) (by kernel_rfl) rfl ?_
        repeat (refine wpRel_one rfl (fun K hK => ?_); go_simp; refine hK _ _ ?_; clear hK K)
        refine wpTab_eff (ptrF 41 W2.heap.size #[.int .i64 0, .int .i64 0, .bool false, .slice none 0 0, .int .i64 0, .bool false]) rfl (fun K hK => ?_)
        go_simp
        refine ⟨fun n => ?_, fun v hv => ?_⟩
        · have ha := inv_alloc (belC_refl W2) belC_below (one_ok (i := 10) (ptrF_ok 41 W2.heap.size #[.int .i64 0, .int .i64 0, .bool false, .slice none 0 0, .int .i64 0, .bool false])) (.cells #[.int .i64 0, .int .i64 0, .bool false, .slice none 0 0, .int .i64 0, .bool false] 41) n
          exact ⟨ha.1, ha.2, ⟨_, rfl⟩, _, rfl, (belC_some W2 n).size, Blk.new_ rfl _ _⟩
        obtain ⟨gs, rfl⟩ := hv
        refine hK _ _ ?_
        clear hK K
        refine wpRel_nil ?_
        rintro w7 ⟨n7, rfl⟩ hΓ
        obtain ⟨gs', egs, hGs, hbs⟩ : (ptrF 41 W2.heap.size #[.int .i64 0, .int .i64 0, .bool false, .slice none 0 0, .int .i64 0, .bool false]).2 (.pointer (some ⟨gs, 0, none⟩)) (someW (belC W2) W2 n7) := hΓ _ (List.mem_cons_self ..)
        obtain rfl : gs = gs' := by simpa using egs
        have hB7 := belC_some W2 n7
        clear hΓ egs r8 r6 rp r4
        generalize someW (belC W2) W2 n7 = W3 at *
        have k0 := hbs.frozen 0
        have k1 := hbs.frozen 1
        have k2 := hbs.frozen 2
        have k3 := hbs.frozen 3
        have k4 := hbs.frozen 4
        have k5 := hbs.frozen 5
        have d0 := hbs.cell 0
        have d1 := hbs.cell 1
        have d2 := hbs.cell 2
        have d3 := hbs.cell 3
        have d4 := hbs.cell 4
        have d5 := hbs.cell 5
        simp at d0 d1 d2 d3 d4 d5
        go_simp
        have hb4 := st_stored hbs (.int .i64 xn) (.int .i64 k) (.bool st) (.slice none 0 0) (.int .i64 ah) (.bool false)
        have hB4 := st_below hB7 hGs (.int .i64 xn) (.int .i64 k) (.bool st) (.slice none 0 0) (.int .i64 ah) (.bool false)
        generalize (((((W3.setCell _ _).setCell _ _).setCell _ _).setCell _ _).setCell _ _).setCell _ _ = W4 at *
        have hBW4 := hBW2.out.trans (hB4.mono hz2)
        have hz4 := hBW4.size
        have hgsW : W.heap.size ≤ gs := Nat.le_trans hz2 hGs
        clear k0 k1 k2 k3 k4 k5 d0 d1 d2 d3 d4 d5 hbs y8 y6 yp y4
        have hns : Hid (stc (newSt p row k (goRow p L0 row k).2, .slice none 0 0) = [.int .i64 xn, .int .i64 k, .bool st, .slice none 0 0, .int .i64 ah, .bool false]) := hide (by
          simp only [stc, newSt, hx.out, hah.out, Int.toNat_natCast, hst.out])
        have hfn := hide (show findS (goRow p L0 row k).1 (goRow p L0 row k).2 (rowAt row k) < 0 by rw [hL.out, hah.out, hx.out, hfi.out]; exact hneg)
        have hzl := hide hI.out.new.len
        rw [hL.out] at hzl
        have hw1 : IntKind.i64.wrap ((k : Int) + 1) = (k : Int) + 1 := IntWalk.i64_in _ (by omega)
        have hLs : L.length < 900000 := by have := hj; have := hrn; omega
        by_cases hk0 : k = 0
        · have hkz : ¬ ((0 : Int) < k) := by omega
          have hgu := hide (show (newSt p row k (goRow p L0 row k).2).guards = [] by simp [newSt, hk0])
          replace hk0 := hide hk0
          have hBW5 := hBW4
          have hgv5 : OwI W4 W.heap.size (.slice none 0 0) (newSt p row k (goRow p L0 row k).2).guards := by rw [hgu.out]; exact OwI.nil _ _
          have hd5 := hI.out.defs.below hBW5
          have hnd5 := hI.out.nd
          have hge5 := hI.out.ge
          have hb5 := hb4
          have hz5 := hBW5.size
          have e5 := (hpos.out.below hBW5 hnW).cell 0
          simp at e5
          obtain ⟨q0, q1, q2, q3, q4, q5⟩ := hb5.c6
          have hown5 : Hid (OwS (W4.alloc (.cells #[.int .i64 xn, .int .i64 k, .bool st, (.slice none 0 0), .int .i64 ah, .bool false] 41)) Y1.heap.size (.slice Asv L.length csv) zs2) := hide (own_alloc (own_below hI.out.new.row hBW5 (Nat.le_refl _)))
          have hns5 : Hid (stc (newSt p row k (goRow p L0 row k).2, (.slice none 0 0)) = [.int .i64 xn, .int .i64 k, .bool st, (.slice none 0 0), .int .i64 ah, .bool false]) := hide (by
            simp only [stc, newSt, hx.out, hah.out, Int.toNat_natCast, hst.out])
          have hp5 := hide ((hpos.out.below hBW5 hnW).alloc (.cells #[.int .i64 xn, .int .i64 k, .bool st, (.slice none 0 0), .int .i64 ah, .bool false] 41))
          have hx5 := hide ((hbx.out.below hBW5 hbx.out.lt).alloc (.cells #[.int .i64 xn, .int .i64 k, .bool st, (.slice none 0 0), .int .i64 ah, .bool false] 41))
          have hne1 := hide (hI.out.new.own (by omega : w.heap.size + 1 < Y1.heap.size))
          have hne2 := hide hI.out.ne
          have hg51 : gs < W4.heap.size := hb5.lt
          have hn51 : w.heap.size + 1 < W4.heap.size := by omega
          have hn52 : wr.heap.size < W4.heap.size := Nat.lt_of_lt_of_le hbx.out.lt hz5
          replace hb5 := hide hb5
          replace hBW5 := hide hBW5
          gi_wp2_with (gi_at_builtin; refine appStIn (x := (newSt p row k (goRow p L0 row k).2, (.slice none 0 0))) (v := .slice Asv L.length csv) (base := Y1.heap.size) (zs := zs2) (g := W4.heap.size) (.tmp 74) (.tmp 76) rfl rfl rfl rfl hown5.out (by rw [hns5.out]; exact Blk.new_ rfl _ _) rfl (by rw [hzl.out]; exact hLs) (by simp; omega) ?_; intro v6 w6 hrow6 hg6 hat6; obtain ⟨A6, c6, hv6⟩ := own_form hrow6; subst hv6; have hp6 := (hg6.block (w.heap.size + 1) (by simp; omega) hne1.out).trans hp5.out; have hx6 := (hg6.block wr.heap.size (by simp; omega) hne2.out).trans hx5.out; have u0 := Blk.cell hp6 0; have u1 := Blk.frozen hp6 0; have hx7 := Blk.far hx6 (p := ⟨w.heap.size + 1, 0, none⟩) (by simp; omega) (.slice A6 (zs2.length + 1) c6); have u2 := hx7.one; have u3 := hx7.frozen 0; simp at u0; replace hp6 := hide hp6; replace hx6 := hide hx6; replace hx7 := hide hx7; replace hrow6 := hide hrow6; replace hg6 := hide hg6; replace hat6 := hide hat6)
          have hpush := InnI.push hI.out (by omega) hBW5.out hfn.out hgv5 hrow6.out hg6.out hat6.out hd5 hnd5 hge5
          rw [hL.out] at hpush
          refine ⟨⟨k + 1, by omega, ds2, rfl, by simp, _, _, hpush⟩, ?_⟩
          show row.length - (intOf (.int .i64 ((k : Int) + 1))).toNat < row.length - (intOf (.int .i64 k)).toNat
          simp only [intOf]
          omega
        · have hkz : (0 : Int) < k := by omega
          obtain ⟨m, hm1⟩ : ∃ m, k = m + 1 := ⟨k - 1, by omega⟩
          have hmk : m < row.length := by omega
          have hw2 : IntKind.i64.wrap ((k : Int) - 1) = m := by rw [IntWalk.i64_in _ (by omega)]; omega
          have hgu := hide (show (newSt p row k (goRow p L0 row k).2).guards = notsTo p (rowAt row m).toNat xn by rw [newSt, if_neg hk0, hm1, Nat.add_sub_cancel, ← hm1, hx.out, Int.toNat_natCast])
          replace hm1 := hide hm1
          replace hk0 := hide hk0
          have hwm : W4.cell? ⟨ga, m, none⟩ = some (.int .i64 (rowAt row m)) := (World.cell?_of_block (a := ⟨ga, m, none⟩) ((hBW4.block ga hgaW).trans hro.out)).trans (hrc.out m hmk)
          obtain ⟨hr0, hr1⟩ := hrow9.out m hmk
          obtain ⟨fm, hfm⟩ : ∃ fm : Nat, rowAt row m = fm := ⟨(rowAt row m).toNat, by omega⟩
          rw [hfm, Int.toNat_natCast] at hgu
          rw [hfm] at hwm hr1
          have y8 := ((hb8.out.below hB2.out (by simp)).below hB4 i2).one
          have hpt4 := hpat.out.below hBW4 (by omega)
          have yp := hpt4.cell 0
          have yq := hpt4.cell 1
          simp at yp yq
          have i1' : w.heap.size < W4.heap.size := by omega
          have i2' : W.heap.size < W4.heap.size := Nat.lt_of_lt_of_le i2 hB4.size
          have i3' : ga < W4.heap.size := by omega
          have r8 := fun n => (belC_cell W4 n 0 i2').trans y8
          have rm := fun n => (belC_cell W4 n m i3').trans hwm
          have rp := fun n => (belC_cell W4 n 0 i1').trans yp
          have rq := fun n => (belC_cell W4 n 1 i1').trans yq
          gi_wp2
          refine wp_region_wide (belC W4) [(7, negF W4.heap.size (.slice (some ⟨b, off, none⟩) p.length cap) win fm xn)] [] (belC_drew W4) (by kernel_rfl) (fun ⟨_, _, h⟩ => by
            have h' : (∃ lv av, Ending.outgrown = Ending.returned (Value.tuple #[atV lv av win, .int .i64 0]) ∧ _) ∧ _ := h
            obtain ⟨⟨_, _, h2, _⟩, _⟩ := h'
            cases h2) (by kernel_rfl) (by kernel_rfl) (fun q hq => by
            rw [List.mem_singleton.1 hq]
            exact (negF_ok _ _ _ _ _).inh) ?_
          repeat (refine wpRel_one rfl (fun K hK => ?_); go_simp; refine hK _ _ ?_; clear hK K)
          refine wpTab_eff (negF W4.heap.size (.slice (some ⟨b, off, none⟩) p.length cap) win fm xn) rfl (fun K hK => ?_)
          go_simp
          refine ⟨fun n => inv_call (belC_refl W4) belC_below (one_ok (negF_ok _ _ _ _ _)) (neg_call (belC_some W4 n).size win _ _ _ fm xn), fun v hv => ?_⟩
          obtain ⟨bn, rfl⟩ := hv
          refine hK _ _ ?_
          clear hK K
          refine wpRel_nil ?_
          rintro w7 ⟨n7, rfl⟩ hΓ
          obtain ⟨bn', ebn, hGn, hn1, hn2, hn3⟩ : (negF W4.heap.size (.slice (some ⟨b, off, none⟩) p.length cap) win fm xn).2 (.func (.func 39) #[] #[.pointer (some ⟨bn + 1, 0, none⟩), .pointer (some ⟨bn + 1 + 1, 0, none⟩), .pointer (some ⟨bn, 0, none⟩)]) (someW (belC W4) W4 n7) := hΓ _ (List.mem_cons_self ..)
          obtain rfl := neg_eq ebn
          have hB5 := belC_some W4 n7
          clear hΓ ebn r8 rm rp rq y8 yp yq hwm i1' i2' i3'
          generalize someW (belC W4) W4 n7 = W5 at *
          have hz5 := hB5.size
          have hbs5 := hb4.below hB5 hb4.lt
          have hgs4 := hb4.lt
          have hBW45 := hBW4.trans (hB5.mono hz4)
          have hdW5 := hI.out.defs.below hBW45
          have hrd5 : RdS W5 w.heap.size (.slice (some ⟨b, off, none⟩) p.length cap) p := h.out.below ((hBY.trans (hI.out.new.base (by omega))).trans (hBW45.mono (by omega))) (Nat.le_refl _)
          have hn3l := hn3.lt
          have hgs5 : gs < W5.heap.size := by omega
          gi_wp2
          refine' rf_law (gf := 39) (lb := #[.pointer (some ⟨bn + 1, 0, none⟩), .pointer (some ⟨bn + 1 + 1, 0, none⟩), .pointer (some ⟨bn, 0, none⟩)]) rfl (enters_of Tryz.func39 (by kernel_rfl) rfl)
            (negs_stops 2 (by omega) w.heap.size bn p fm xn win (.slice (some ⟨b, off, none⟩) p.length cap) W5 (by omega) (by omega) (by omega) hn1 hn2 hn3 hrd5)
            KpN.trans (KpN.putObj (by omega) (by omega)) (fun _ => rfl)
            (fun pre X => (∃ gv, FldI W5 gs 3 41 #[.int .i64 xn, .int .i64 k, .bool st, .slice none 0 0, .int .i64 ah, .bool false] pre gv X) ∧ DefOk X ds2) (fun _ _ _ => False)
            (fun pre X X' h k => ⟨h.1.imp fun gv hg => hg.kept (Nat.le_refl _) k, h.2.kept (fun D hD => hdW5.lt D hD) k⟩) (fun _ _ _ _ h _ => h) ⟨⟨_, World.grownBy.refl _ _, by simpa using hbs5, OwI.nil _ _⟩, hdW5⟩ _ ?assign5 ?body5 ?done5 (fun _ _ _ _ _ _ h => h.elim)
          case assign5 =>
            intro l' y X K hK
            gi_wp2
            exact hK
          case body5 =>
            rintro l' pre y X hX ⟨⟨gv, hf⟩, hdX⟩ hpl
            obtain ⟨Ag, ng, cg, hgv⟩ := own_form3 hf.2.2
            subst hgv
            have hbX : Blk X gs 41 #[.int .i64 xn, .int .i64 k, .bool st, .slice Ag ng cg, .int .i64 ah, .bool false] := by simpa using hf.2.1
            have g3 := hbX.cell 3
            simp at g3
            have hpl2 : pre.length < 1000000 := by have := notsTo_len p fm xn; omega
            have hgX := hbX.lt
            replace hf := hide hf
            replace hbX := hide hbX
            gi_wp2_with (gi_at_builtin; refine app1In (x := y) (v := .slice Ag ng cg) (l := pre) (base := W5.heap.size) (g := X.heap.size) (.tmp 65) (.tmp 67) rfl rfl rfl rfl (hf.out.2.2.alloc _) (Blk.new_ rfl _ _).one hpl2 (by simp; omega) ?_; intro v1 w1 hown1 hg1; obtain ⟨A1, n1, c1, hv1⟩ := own_form3 hown1; subst hv1; have hs := FldI.step hf.out hgs5 hown1 hg1; have s0 := hs.1.cell 3; have s1 := hs.1.frozen 3; simp at s0; replace hs := hide hs)
            exact ⟨hs.out.2.2.from _, KpN.of_grown hf.out.1 hs.out.2.1.1 hs.out.2.2.size (by omega) (by omega) (by omega) (by omega), ⟨_, hs.out.2.1⟩, hdX.keeps hs.out.2.2⟩
          case done5 =>
            rintro D xs W6 hD rfl ⟨⟨gv, hf⟩, hdX⟩ hKD
            obtain ⟨Ag, ng, cg, hgv⟩ := own_form3 hf.2.2
            subst hgv
            have hb5 : Blk W6 gs 41 #[.int .i64 xn, .int .i64 k, .bool st, .slice Ag ng cg, .int .i64 ah, .bool false] := by simpa using hf.2.1
            have hBW5 : Below W.heap.size W W6 := hBW45.trans (grown_below' hf.1 hgsW (by omega))
            have hgv5 : OwI W6 W.heap.size (.slice Ag ng cg) (newSt p row k (goRow p L0 row k).2).guards := by rw [hgu.out]; exact hf.2.2.mono (by omega)
            have hd5 : DefOk W6 (D :: ds2) := by
              intro D' hD'
              rcases List.mem_cons.1 hD' with rfl | hD'
              · exact hKD
              · exact hdX D' hD'
            have hnd5 : (D :: ds2).Nodup := List.nodup_cons.2 ⟨fun h => by have := hdW5.lt D h; omega, hI.out.nd⟩
            have hge5 : ∀ D' ∈ D :: ds2, Y1.heap.size ≤ D' := by
              intro D' hD'
              rcases List.mem_cons.1 hD' with rfl | hD'
              · omega
              · exact hI.out.ge D' hD'
            clear hf hdX hKD hn1 hn2 hn3 hrd5 hbs5
            have hz5 := hBW5.size
            have e5 := (hpos.out.below hBW5 hnW).cell 0
            simp at e5
            obtain ⟨q0, q1, q2, q3, q4, q5⟩ := hb5.c6
            have hown5 : Hid (OwS (W6.alloc (.cells #[.int .i64 xn, .int .i64 k, .bool st, (.slice Ag ng cg), .int .i64 ah, .bool false] 41)) Y1.heap.size (.slice Asv L.length csv) zs2) := hide (own_alloc (own_below hI.out.new.row hBW5 (Nat.le_refl _)))
            have hns5 : Hid (stc (newSt p row k (goRow p L0 row k).2, (.slice Ag ng cg)) = [.int .i64 xn, .int .i64 k, .bool st, (.slice Ag ng cg), .int .i64 ah, .bool false]) := hide (by
              simp only [stc, newSt, hx.out, hah.out, Int.toNat_natCast, hst.out])
            have hp5 := hide ((hpos.out.below hBW5 hnW).alloc (.cells #[.int .i64 xn, .int .i64 k, .bool st, (.slice Ag ng cg), .int .i64 ah, .bool false] 41))
            have hx5 := hide ((hbx.out.below hBW5 hbx.out.lt).alloc (.cells #[.int .i64 xn, .int .i64 k, .bool st, (.slice Ag ng cg), .int .i64 ah, .bool false] 41))
            have hne1 := hide (hI.out.new.own (by omega : w.heap.size + 1 < Y1.heap.size))
            have hne2 := hide hI.out.ne
            have hg51 : gs < W6.heap.size := hb5.lt
            have hn51 : w.heap.size + 1 < W6.heap.size := by omega
            have hn52 : wr.heap.size < W6.heap.size := Nat.lt_of_lt_of_le hbx.out.lt hz5
            replace hb5 := hide hb5
            replace hBW5 := hide hBW5
            gi_wp2_with (gi_at_builtin; refine appStIn (x := (newSt p row k (goRow p L0 row k).2, (.slice Ag ng cg))) (v := .slice Asv L.length csv) (base := Y1.heap.size) (zs := zs2) (g := W6.heap.size) (.tmp 74) (.tmp 76) rfl rfl rfl rfl hown5.out (by rw [hns5.out]; exact Blk.new_ rfl _ _) rfl (by rw [hzl.out]; exact hLs) (by simp; omega) ?_; intro v6 w6 hrow6 hg6 hat6; obtain ⟨A6, c6, hv6⟩ := own_form hrow6; subst hv6; have hp6 := (hg6.block (w.heap.size + 1) (by simp; omega) hne1.out).trans hp5.out; have hx6 := (hg6.block wr.heap.size (by simp; omega) hne2.out).trans hx5.out; have u0 := Blk.cell hp6 0; have u1 := Blk.frozen hp6 0; have hx7 := Blk.far hx6 (p := ⟨w.heap.size + 1, 0, none⟩) (by simp; omega) (.slice A6 (zs2.length + 1) c6); have u2 := hx7.one; have u3 := hx7.frozen 0; simp at u0; replace hp6 := hide hp6; replace hx6 := hide hx6; replace hx7 := hide hx7; replace hrow6 := hide hrow6; replace hg6 := hide hg6; replace hat6 := hide hat6)
            have hpush := InnI.push hI.out (by omega) hBW5.out hfn.out hgv5 hrow6.out hg6.out hat6.out hd5 hnd5 hge5
            rw [hL.out] at hpush
            refine ⟨⟨k + 1, (D :: ds2), _, _, by omega, rfl, rfl, ⟨rfl, rfl, rfl, rfl, rfl, rfl, rfl, rfl, rfl, rfl, rfl⟩, hpush⟩, ?_⟩
            show row.length - (intOf (.int .i64 ((k : Int) + 1))).toNat < row.length - (intOf (.int .i64 k)).toNat
            simp only [intOf]
            omega
      · have hfn := hide (show findS (goRow p L0 row k).1 (goRow p L0 row k).2 (rowAt row k) = fi by rw [hL.out, hah.out, hx.out, hfi.out])
        have hw1 : IntKind.i64.wrap ((k : Int) + 1) = (k : Int) + 1 := IntWalk.i64_in _ (by omega)
        gi_wp2_with (refine ⟨trivial, ?_⟩; gi_at_call 25; (with_reducible refine (callsIn_wide.2 (hcall.out _ hB8.out hb8.out)).mono ?_); rintro e W2 ⟨rfl, hB2⟩; have hBW2 := hide (hB8.out.trans (hB2.mono (by simp))); have y6 := hbx.out.below hBW2.out hbx.out.lt; have u2 := y6.one; have u3 := y6.frozen 0; replace y6 := hide y6; replace hB2 := hide hB2)
        have hpush := InnI.found hI.out (by omega) hBW2.out hfn.out (by omega)
        refine ⟨⟨k + 1, ds2, _, _, by omega, rfl, rfl, ⟨rfl, rfl, rfl, rfl, rfl, rfl, rfl, rfl, rfl, rfl, rfl⟩, hpush⟩, ?_⟩
        show row.length - (intOf (.int .i64 ((k : Int) + 1))).toNat < row.length - (intOf (.int .i64 k)).toNat
        simp only [intOf]
        omega
    · obtain rfl : k = row.length := by omega
      have hnki : ¬ ((row.length : Int) < row.length) := by omega
      have hadd2 : addRow p L0 row = setLast (goRow p L0 row row.length).1 (goRow p L0 row row.length).2.toNat := rfl
      have hzW := hI.new.grow.size
      have hahn := hI.pos hrne
      have hahh := hI.hi
      obtain ⟨ahn, hah⟩ : ∃ n : Nat, (goRow p L0 row row.length).2 = n := ⟨_, (Int.toNat_of_nonneg hahn).symm⟩
      rw [hah] at hahh
      have hzl := hI.new.len
      have hlz : ahn < zs2.length := by omega
      obtain ⟨gS, cS, curS, hsv, hgS1, hgS2, -, hgS3, hgS4, -⟩ := hI.new.row.at (List.getElem?_eq_getElem hlz)
      subst hsv
      obtain ⟨⟨uS, q5⟩, qf⟩ := blk_at hgS3 (ahn * 6 + 5) hgS4
      have e0 := hI.new.box.cell 0
      simp at e0
      have hbx := hI.box.one
      rw [hah] at hbx
      have hzl' : (ahn : Int) < zs2.length := by omega
      have hbl := hI.box.lt
      have hnW : w.heap.size + 1 < W.heap.size := by omega
      have hlast := NewI.last_ hI.new (by omega) (List.getElem?_eq_getElem hlz)
      have hw1 : IntKind.i64.wrap ((j : Int) + 1) = (j : Int) + 1 := IntWalk.i64_in _ (by omega)
      have hll := hI.len
      rw [show setLast (goRow p L0 row row.length).1 ahn = addRows p (rs.take (j + 1)) by rw [hadd.out, hadd2, hah, Int.toNat_natCast]] at hlast
      have hlen1 : (addRows p (rs.take (j + 1))).length ≤ 20 * (j + 1) := by
        rw [hadd.out, hadd2, setLast, List.length_modify]
        omega
      replace hlast := hide hlast
      replace hI := hide hI
      replace hgS3 := hide hgS3
      replace hah := hide hah
      replace hadd2 := hide hadd2
      clear hzl
      gi_wp2
      refine ⟨⟨j + 1, by omega, ds2, rfl, by simp, ⟨_, _, hlast.out⟩, hI.out.defs.keeps (KeepsOthers.setCell _ _ _), hI.out.nd, hI.out.ge, hlen1⟩, ?_⟩
      show rs.length - (intOf (.int .i64 ((j : Int) + 1))).toNat < rs.length - (intOf (.int .i64 j)).toNat
      simp only [intOf]
      omega
  · obtain rfl : j = rs.length := by omega
    have hnji : ¬ ((rs.length : Int) < rs.length) := by omega
    rw [List.take_length] at hN hlen
    have hb0 : Below w.heap.size w wr := hBY.trans (hN.base (by omega))
    have hbp := (hN.grow.block w.heap.size (by omega) (fun e => by have := Option.some.inj e; omega)).trans b1Y
    have hzr := hN.grow.size
    have hcall := hide fun W' (hb : Below wr.heap.size wr W') => hpo.out W' (hb0.trans (hb.mono hb0.size))
    have c0 := Blk.cell hbp 0
    have c1 := Blk.cell hbp 1
    simp at c0 c1
    have hpn := hide hR.out.pos
    have hpl := hR.out.last
    replace hbp := hide hbp
    replace hN := hide hN
    have hnr : w.heap.size + 1 < wr.heap.size := by omega
    gi_wp2_with (refine ⟨trivial, ?_⟩; gi_at_call 27; (with_reducible refine (callsIn_wide.2 (hcall.out _ (Below.refl _ _))).mono ?_); rintro e W4 ⟨⟨v4, rfl, hown4⟩, hB4⟩; obtain ⟨A4, k4, hv4⟩ := own_form hown4; subst hv4)
    obtain ⟨gl, kl, e4, hgl1, hgl2⟩ := hown4.form1 hpn.out
    injection e4 with e41 _ e42
    subst e41 e42
    have hposl := hide (posLast_eq p hpn.out)
    have hpl0 : 0 < (positive p).length := List.length_pos_iff.2 hpn.out
    obtain ⟨m, hm1⟩ : ∃ m, (positive p).length = m + 1 := ⟨(positive p).length - 1, by omega⟩
    have hlc : W4.cell? ⟨gl, m, none⟩ = some (.int .i64 (posLast p)) := by
      have := World.ownsRow.cells (g := gl) hown4 rfl m (.int .i64 (posLast p)) (by
        rw [← hposl.out, List.getLast_eq_getElem]
        simp [hm1])
      rw [Addr.add_lit] at this
      simpa using this
    have hpq := posFrom_len p 0
    have hmp : m + 1 ≤ p.length := by rw [← hm1]; exact hpq
    have hw2 : IntKind.i64.wrap (((positive p).length : Int) - 1) = m := by rw [IntWalk.i64_in _ (by omega)]; omega
    have hml : (m : Int) < (positive p).length := by omega
    have hmn : m < (positive p).length := by omega
    replace hm1 := hide hm1
    generalize (positive p).length = n at *
    have hz4 := hB4.size
    have c0' := (Blk.below hbp.out hB4 (by omega)).cell 0
    have c1' := (Blk.below hbp.out hB4 (by omega)).cell 1
    simp at c0' c1'
    have i1 : w.heap.size < W4.heap.size := by omega
    have rp := fun n => (belC_cell W4 n 0 i1).trans c0'
    have rq := fun n => (belC_cell W4 n 1 i1).trans c1'
    have rl := fun n => (belC_cell W4 n m hgl2).trans hlc
    clear c0 c1 hown4 hlc
    gi_wp2
    refine wp_region_wide (belC W4) [(10, negF W4.heap.size (.slice A p.length cap) win (posLast p) p.length)] [] (belC_drew W4) (by kernel_rfl) (fun ⟨_, _, h⟩ => by
      have h' : (∃ lv av, Ending.outgrown = Ending.returned (Value.tuple #[atV lv av win, .int .i64 0]) ∧ _) ∧ _ := h
      obtain ⟨⟨_, _, h2, _⟩, _⟩ := h'
      cases h2) (by kernel_rfl) (by kernel_rfl) (fun q hq => by
      rw [List.mem_singleton.1 hq]
      exact (negF_ok _ _ _ _ _).inh) ?_
    repeat (refine wpRel_one rfl (fun K hK => ?_); go_simp; refine hK _ _ ?_; clear hK K)
    refine wpTab_eff (negF W4.heap.size (.slice A p.length cap) win (posLast p) p.length) rfl (fun K hK => ?_)
    go_simp
    refine ⟨fun n => inv_call (belC_refl W4) belC_below (one_ok (negF_ok _ _ _ _ _)) (neg_call (belC_some W4 n).size win _ _ _ (posLast p) p.length), fun v hv => ?_⟩
    obtain ⟨bn, rfl⟩ := hv
    refine hK _ _ ?_
    clear hK K
    refine wpRel_nil ?_
    rintro w7 ⟨n7, rfl⟩ hΓ
    obtain ⟨bn', ebn, hGn, hn1, hn2, hn3⟩ : (negF W4.heap.size (.slice A p.length cap) win (posLast p) p.length).2 (.func (.func 39) #[] #[.pointer (some ⟨bn + 1, 0, none⟩), .pointer (some ⟨bn + 1 + 1, 0, none⟩), .pointer (some ⟨bn, 0, none⟩)]) (someW (belC W4) W4 n7) := hΓ _ (List.mem_cons_self ..)
    obtain rfl := neg_eq ebn
    have hB5 := belC_some W4 n7
    clear hΓ ebn rp rq rl
    generalize someW (belC W4) W4 n7 = W5 at *
    have hz5 := hB5.size
    have hBw5 : Below wr.heap.size wr W5 := hB4.trans (hB5.mono hz4)
    have hbw5 : Below w.heap.size w W5 := hb0.trans (hBw5.mono hb0.size)
    obtain ⟨Asv, csv, hsv⟩ := hN.out.form
    subst hsv
    have hbs5 := hN.out.box.below hBw5 hN.out.box.lt
    have hdW5 := hdef.below hBw5
    have hrd5 : RdS W5 w.heap.size (.slice A p.length cap) p := h.out.below hbw5 (Nat.le_refl _)
    have hn3l := hn3.lt
    gi_wp2
    refine' rf_law (gf := 39) (lb := #[.pointer (some ⟨bn + 1, 0, none⟩), .pointer (some ⟨bn + 1 + 1, 0, none⟩), .pointer (some ⟨bn, 0, none⟩)]) rfl (enters_of Tryz.func39 (by kernel_rfl) rfl)
      (negs_stops 2 (by omega) w.heap.size bn p (posLast p) p.length win (.slice A p.length cap) W5 (by omega) (by omega) (by omega) hn1 hn2 hn3 hrd5)
      KpN.trans (KpN.putObj (by omega) (by omega)) (fun _ => rfl)
      (fun pre X => (∃ gv, FldI W5 (w.heap.size + 1) 1 30 #[.slice Asv (addRows p rs).length csv, .slice none 0 0, .int .i64 win] pre gv X) ∧ DefOk X ds) (fun _ _ _ => False)
      (fun pre X X' h k => ⟨h.1.imp fun gv hg => hg.kept (Nat.le_refl _) k, h.2.kept (fun D hD => hdW5.lt D hD) k⟩) (fun _ _ _ _ h _ => h) ⟨⟨_, World.grownBy.refl _ _, by simpa using hbs5, OwI.nil _ _⟩, hdW5⟩ _ ?assign7 ?body7 ?done7 (fun _ _ _ _ _ _ h => h.elim)
    case assign7 =>
      intro l' y X K hK
      gi_wp2
      exact hK
    case body7 =>
      rintro l' pre y X hX ⟨⟨gv, hf⟩, hdX⟩ hpl
      obtain ⟨Ag, ng, cg, hgv⟩ := own_form3 hf.2.2
      subst hgv
      have hbX : Blk X (w.heap.size + 1) 30 #[.slice Asv (addRows p rs).length csv, .slice Ag ng cg, .int .i64 win] := by simpa using hf.2.1
      have g3 := hbX.cell 1
      simp at g3
      have hpl2 : pre.length < 1000000 := by have := notsTo_len p (posLast p) p.length; omega
      have hgX := hbX.lt
      replace hf := hide hf
      replace hbX := hide hbX
      gi_wp2_with (gi_at_builtin; refine app1In (x := y) (v := .slice Ag ng cg) (l := pre) (base := W5.heap.size) (g := X.heap.size) (.tmp 102) (.tmp 104) rfl rfl rfl rfl (hf.out.2.2.alloc _) (Blk.new_ rfl _ _).one hpl2 (by simp; omega) ?_; intro v1 w1 hown1 hg1; obtain ⟨A1, n1, c1, hv1⟩ := own_form3 hown1; subst hv1; have hs := FldI.step hf.out (by omega) hown1 hg1; have s0 := hs.1.cell 1; have s1 := hs.1.frozen 1; simp at s0; replace hs := hide hs)
      exact ⟨hs.out.2.2.from _, KpN.of_grown hf.out.1 hs.out.2.1.1 hs.out.2.2.size (by omega) (by omega) (by omega) (by omega), ⟨_, hs.out.2.1⟩, hdX.keeps hs.out.2.2⟩
    case done7 =>
      rintro D xs W6 hD rfl ⟨⟨gv, hf⟩, hdX⟩ hKD
      obtain ⟨Ag, ng, cg, hgv⟩ := own_form3 hf.2.2
      subst hgv
      have hb6 : Blk W6 (w.heap.size + 1) 30 #[.slice Asv (addRows p rs).length csv, .slice Ag ng cg, .int .i64 win] := by simpa using hf.2.1
      have g0 := hb6.cell 0
      have g1 := hb6.cell 1
      have g2 := hb6.cell 2
      have f0 := hb6.frozen 0
      have f1 := hb6.frozen 1
      have f2 := hb6.frozen 2
      simp at g0 g1 g2
      replace hf := hide hf
      have hb7 := hide (auto_stored hb6 (.slice Asv (addRows p rs).length csv) (.slice Ag ng cg) (.int .i64 win))
      have hd6 : DefOk W6 (D :: ds) := by
        intro D' hD'
        rcases List.mem_cons.1 hD' with rfl | hD'
        · exact hKD
        · exact hdX D' hD'
      have hnd6 : (D :: ds).Nodup := List.nodup_cons.2 ⟨fun h => by have := hdW5.lt D h; omega, hnd⟩
      have hge6 : ∀ D' ∈ D :: ds, w.heap.size ≤ D' := by
        intro D' hD'
        rcases List.mem_cons.1 hD' with rfl | hD'
        · omega
        · have := hge D' hD'; omega
      replace hd6 := hide hd6
      replace hb6 := hide hb6
      clear hdX hKD hn1 hn2 hn3
      gi_wp2
      have hg7 := grownBy_set (grownBy_set (grownBy_set hf.out.1 0 (.slice Asv (addRows p rs).length csv)) 1 (.slice Ag ng cg)) 2 (.int .i64 win)
      have hgne : some (w.heap.size + 1) ≠ (Value.slice Ag ng cg).ownBlock := fun e => by have := (OwI.lt hf.out.2.2 _ e.symm).1; omega
      have hown7 := own_set (p := ⟨w.heap.size + 1, 2, none⟩) (own_set (p := ⟨w.heap.size + 1, 1, none⟩) (own_set (p := ⟨w.heap.size + 1, 0, none⟩) hf.out.2.2 hgne (.slice Asv (addRows p rs).length csv)) hgne (.slice Ag ng cg)) hgne (.int .i64 win)
      have hk7 : KeepsOthers W6 (((W6.setCell ⟨w.heap.size + 1, 0, none⟩ (.slice Asv (addRows p rs).length csv)).setCell ⟨w.heap.size + 1, 1, none⟩ (.slice Ag ng cg)).setCell ⟨w.heap.size + 1, 2, none⟩ (.int .i64 win)) := ((KeepsOthers.setCell _ _ _).trans (KeepsOthers.setCell _ _ _)).trans (KeepsOthers.setCell _ _ _)
      have hd7 := hd6.out.keeps hk7
      have hb7' := hb7.out
      generalize ((W6.setCell _ _).setCell _ _).setCell _ _ = W7 at *
      have hrow5 := own_below hN.out.row hBw5 (Nat.le_refl _)
      have hne1 := hN.out.own (by omega : w.heap.size + 1 < Y1.heap.size)
      have hrow7 := World.ownsRow.kept hrow5 hg7 (.inr fun e => hne1 e.symm)
      have hgs7 : ∀ x ∈ zs, OwI W7 Y1.heap.size x.2 x.1.guards := fun x hx => OwI.kept ((hN.out.gs x hx).below hBw5 (Nat.le_refl _)) hg7 (.inr fun e => hN.out.gne (by omega) hx e.symm)
      have hB7 : Below w.heap.size w W7 := hbw5.trans (grown_below' hg7 (by omega) (by omega))
      refine rf_ret_list (ds := D :: ds) (v := .tuple #[atV (.slice Asv (addRows p rs).length csv) (.slice Ag ng cg) win, .int .i64 0]) rfl hd7 hnd6 (fun W' hcells hbel => ?_)
      have hb8 : Blk W' (w.heap.size + 1) 30 #[.slice Asv (addRows p rs).length csv, .slice Ag ng cg, .int .i64 win] := hcells _ _ hb7' rfl
      have k0 := hb8.cell 0
      have k1 := hb8.cell 1
      have k2 := hb8.cell 2
      simp at k0 k1 k2
      refine ⟨by simp [results, Tryz.f7, go_sem, k0, k1, k2], ⟨_, _, rfl, ?_, (OwI.cells hown7 hcells).rd⟩, hB7.trans (hbel w.heap.size hge6)⟩
      have hrd7 := rdt_of_row (own_cells hrow7 hcells) fun x hx => (OwI.cells (hgs7 x hx) hcells).rd
      rw [hN.out.eq] at hrd7
      rw [hnew.out]
      exact hrd7
end Go.Proofs.YtmmbblfmhcegcaaGreat
