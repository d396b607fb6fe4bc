/- Several texts of one proof: The iterator over a pattern's rows: its walk. -/
import Derived.Test.YtmmbblfmhcegcaaGreatM08
import Derived.Deep.Cut
import Derived.OwnWalkIn

namespace Go.Proofs.YtmmbblfmhcegcaaGreat
open Go.RowKit Go.Shelf
attribute [local go_sem] Oper.semAt_some relVal relEff dT valF

theorem rf_ret_own {β : Type} {P : Program} {fn : Func} {R : Ending → World → Prop} {a : Act} {v : Value} {B : Nat} {I : β → World → Prop} (hI : OwnFrom B I) {s : β} {ds : List Nat} (hv : ∀ W', (results fn a.tmps).run P W' = .ok v W') (hR : ∀ W', I s W' → R (.returned v) W') : ∀ {W : World}, a.defers = ds.map coll → DefOk W ds → ds.Nodup → (∀ D ∈ ds, B ≤ D) → I s W →
    bodyPostM Fence.wide 3 P fn R .ret a W := by
  intro W hd hK hn hB h
  show LeavesInM Fence.wide 3 P fn a.tmps R a.defers .returning W
  rw [hd]
  clear hd
  induction ds generalizing W with
  | nil => exact ⟨_, hv W, hR W h⟩
  | cons D ds ih =>
    obtain ⟨hn1, hn2⟩ := List.nodup_cons.1 hn
    have hD := hK D (by simp)
    refine ⟨by simp, .inl ⟨_, _, rfl, run_takeDeferred hD, ih ?_ hn2 (fun D' h' => hB D' (by simp [h'])) (hI.putObj _ h (hB D (by simp)) hD rfl)⟩⟩
    intro D' hD'
    rw [World.putObj_heap_other (by rintro rfl; exact hn1 hD')]
    exact hK D' (by simp [hD'])

theorem wp_region_invT {P : Program} {id : Nat} {Q : Exit → Act → World → Prop} {a : Act} {w : World} {ops : Array Oper} {l : List Oper} {ot : Oper} (hops : ops = (l ++ [ot]).toArray) (C : World → Prop) (L : List (Nat × Fact)) (D : List (Nat × List Nat)) (hd : C w.drew)
    (hm : P.follows .mixedOrders = true) (hB : relB ops (dT D) = true) (hinh : ∀ p ∈ L, ∃ v, p.2.1 v) (hs : sinkT ops l.length = true) (hg : ot.guard = none)
    (h : wpRel P ops (fun w' => ∃ n, w' = someW C w n) (KeepT L) (pfT L) (dT D) (fun a' w' => ot.wp P a' w' (Q .normal) Q) l 0 (fun _ => undef) [] a) :
    (Code.region id ops true).wp P Q a w := by
  have mem : ∀ {k : Nat} {f : Fact}, L.lookup k = some f → ∃ j, (j, f) ∈ L := fun h => lookup_mem h
  refine wp_region_relT hops _ _ (pfT L) (dT D) hm hB ?_ ?_ ?_ hs hg ⟨w.drew, (someW_of hd).symm⟩ h
  · intro k R hR vs vs' v w hd hr
    obtain ⟨f, -, rfl⟩ := Option.map_eq_some_iff.1 hR
    exact hr
  · intro k R hR
    obtain ⟨f, hf, rfl⟩ := Option.map_eq_some_iff.1 hR
    obtain ⟨j, hj⟩ := mem hf
    exact hinh _ hj
  · intro k R hR vs v w w' hr _ hE
    obtain ⟨f, hf, rfl⟩ := Option.map_eq_some_iff.1 hR
    obtain ⟨j, hj⟩ := mem hf
    exact hE _ hj v hr
theorem own_from_below {β : Type} {B : Nat} {I : β → World → Prop} (h : OwnFrom B I) {s : β} {W W' : World} (hs : I s W) (hb : Below W.heap.size W W') : I s W' :=
  h s W W' none hs ⟨hb.os, hb.tape, hb.output, hb.size, fun k hk _ => hb.block k hk⟩ (fun r e => by cases e)
theorem own_from_mono {β : Type} {B B' : Nat} {I : β → World → Prop} (h : OwnFrom B I) (hB : B ≤ B') : OwnFrom B' I := fun s W W' row hs hg hr => h s W W' row hs hg fun r e => ⟨Nat.le_trans hB (hr r e).1, (hr r e).2⟩
theorem keeps_from_mono {B B' : Nat} {W W' : World} (h : KeepsFrom B W W') (hB : B ≤ B') : KeepsFrom B' W W' := ⟨h.size, fun k o hk ho hc => h.same k o (Nat.le_trans hB hk) ho hc⟩
theorem round_mono {β : Type} {P : Program} {l : Nat} {Rd : β → Value → World → Prop} {Kp : World → World → Prop} {J : List β → World → Prop} {xs : List β} {B B' : Nat} (h : RoundG P l Rd Kp J xs B) (hB : B ≤ B') : RoundG P l Rd Kp J xs B' :=
  fun pre x v V h1 h2 h3 h4 => (h pre x v V h1 h2 h3 (Nat.le_trans hB h4)).mono fun _ _ ⟨a, b, c, d⟩ => ⟨a, b, c, keeps_from_mono d hB⟩

/-- What 'rows(..)' gives. -/
def itF (G : Nat) (sv av : Value) (win i : Int) : Fact :=
  (fun v => ∃ b : Nat, v = .func (.func 45) #[] #[.pointer (some ⟨b + 1, 0, none⟩), .pointer (some ⟨b, 0, none⟩), .pointer (some ⟨b + 1 + 1, 0, none⟩)],
   fun v x => ∃ b : Nat, v = .func (.func 45) #[] #[.pointer (some ⟨b + 1, 0, none⟩), .pointer (some ⟨b, 0, none⟩), .pointer (some ⟨b + 1 + 1, 0, none⟩)] ∧ G ≤ b ∧ Blk x b 24 #[sv, .int .i64 win] ∧ Blk x (b + 1) 3 #[.int .i64 i] ∧ Blk x (b + 1 + 1) 28 #[av])
theorem itF_ok (G : Nat) (sv av : Value) (win i : Int) : FactOk (itF G sv av win i) := ⟨⟨_, 0, rfl⟩, fun _ _ _ ⟨b, h1, h2, h3, h4, h5⟩ hb => ⟨b, h1, h2, h3.below hb h3.lt, h4.below hb h4.lt, h5.below hb h5.lt⟩⟩
theorem rows_itF {G : Nat} {x : World} (hG : G ≤ x.heap.size) (win : Int) (A A' : Option Addr) (n c n' c' : Nat) (i : Int) : Calls Tryz.prog 38 #[ptV (.slice A n c) win, .int .i64 i, .slice A' n' c'] x fun e w' =>
    (∃ v, e = .returned v ∧ (itF G (.slice A n c) (.slice A' n' c') win i).1 v ∧ (itF G (.slice A n c) (.slice A' n' c') win i).2 v w') ∧ Below x.heap.size x w' := by
  refine (rows_made win A A' n c n' c' i x).mono ?_
  rintro e w' ⟨rfl, rfl⟩
  refine ⟨⟨_, rfl, ⟨_, rfl⟩, _, rfl, hG, ?_, ?_, ?_⟩, (((Below.refl _ _).alloc (Nat.le_refl _) _).alloc (by simp) _).alloc (by simp; omega) _⟩
  · exact ((Blk.new_ rfl _ _).alloc _).alloc _
  · exact (Blk.new_ (by simp) _ _).alloc _
  · exact Blk.new_ (by simp) _ _
theorem itF_eq {b b' : Nat} (h : (Value.func (.func 45) #[] #[.pointer (some ⟨b + 1, 0, none⟩), .pointer (some ⟨b, 0, none⟩), .pointer (some ⟨b + 1 + 1, 0, none⟩)]) = .func (.func 45) #[] #[.pointer (some ⟨b' + 1, 0, none⟩), .pointer (some ⟨b', 0, none⟩), .pointer (some ⟨b' + 1 + 1, 0, none⟩)]) : b = b' := by
  simpa using h
theorem rowsPre_next {n₀ Ball : Nat} {W V : World} {Bi Bp Ba bb : Nat} {p : List Sp} {win : Int} {sv av av' : Value} {i : Nat} {ahead ahead' : List Int} (h : RowsPre n₀ Ball W Bi Bp Ba p win sv i ahead av) (hb : Below W.heap.size W V) (hbb : W.heap.size ≤ bb)
    (h1 : Blk V bb 24 #[sv, .int .i64 win]) (h2 : Blk V (bb + 1) 3 #[.int .i64 ((i : Int) + 1)]) (h3 : Blk V (bb + 1 + 1) 28 #[av']) (hr : RowOk Ball V av' ahead') : RowsPre n₀ Ball V (bb + 1) bb (bb + 1 + 1) p win sv (i + 1) ahead' av' := by
  have hBl : Ball < W.heap.size := h.ok Ball (.inl rfl)
  have hk := KpB.of_below hBl h.n0 hb
  exact ⟨Nat.le_trans h.n0 hb.size, h.rd.below hk.below (Nat.le_refl _), hk.ok h.ok, hk.box h.box, by simpa using h2, h1, h3, Safe.new h.ok hBl hb (by omega) h2.lt, Safe.new h.ok hBl hb hbb h1.lt, Safe.new h.ok hBl hb (by omega) h3.lt, hr⟩
/-- So many times one number. -/
def repF (G k : Nat) (i : Int) : Fact := (fun v => ∃ A c, v = .slice A k c, fun v x => OwI x G v (List.replicate k i))
theorem repF_ok (G k : Nat) (i : Int) : FactOk (repF G k i) := ⟨⟨_, none, 0, rfl⟩, fun _ _ _ h hb => OwI.below h hb (Nat.le_refl _)⟩
def pairF (G : Nat) (av : Value) (k : Nat) (i : Int) : Fact := (fun v => ∃ g, v = .slice (some ⟨g, 0, none⟩) 2 2, fun v x => ∃ g r, v = .slice (some ⟨g, 0, none⟩) 2 2 ∧ G ≤ g ∧ Blk x g 28 #[av, r] ∧ OwI x G r (List.replicate k i))
theorem pairF_ok (G : Nat) (av : Value) (k : Nat) (i : Int) : FactOk (pairF G av k i) := ⟨⟨_, 0, rfl⟩, fun _ _ _ ⟨g, r, h1, h2, h3, h4⟩ hb => ⟨g, r, h1, h2, h3.below hb h3.lt, h4.below hb (Nat.le_refl _)⟩⟩
def catF (G : Nat) (l : List Int) : Fact := (fun v => ∃ A n c, v = .slice A n c, fun v x => OwI x G v l)
theorem catF_ok (G : Nat) (l : List Int) : FactOk (catF G l) := ⟨⟨_, none, 0, 0, rfl⟩, fun _ _ _ h hb => OwI.below h hb (Nat.le_refl _)⟩
def itG (G : Nat) (sv : Value) (win i : Int) (l : List Int) : Fact :=
  (fun v => ∃ b : Nat, v = .func (.func 45) #[] #[.pointer (some ⟨b + 1, 0, none⟩), .pointer (some ⟨b, 0, none⟩), .pointer (some ⟨b + 1 + 1, 0, none⟩)],
   fun v x => ∃ (b : Nat) (r : Value), v = .func (.func 45) #[] #[.pointer (some ⟨b + 1, 0, none⟩), .pointer (some ⟨b, 0, none⟩), .pointer (some ⟨b + 1 + 1, 0, none⟩)] ∧ G ≤ b ∧ Blk x b 24 #[sv, .int .i64 win] ∧ Blk x (b + 1) 3 #[.int .i64 i] ∧ Blk x (b + 1 + 1) 28 #[r] ∧ OwI x G r l)
theorem itG_ok (G : Nat) (sv : Value) (win i : Int) (l : List Int) : FactOk (itG G sv win i l) := ⟨⟨_, 0, rfl⟩, fun _ _ _ ⟨b, r, h1, h2, h3, h4, h5, h6⟩ hb => ⟨b, r, h1, h2, h3.below hb h3.lt, h4.below hb h4.lt, h5.below hb h5.lt, h6.below hb (Nat.le_refl _)⟩⟩
def unL (G : Nat) (sv av : Value) (win i : Int) (k : Nat) (ahead : List Int) : List (Nat × Fact) :=
  [(5, fullG 3 G 1 [.int .i64 i]), (7, repF G k i), (8, pairF G av k i), (9, catF G (ahead ++ List.replicate k i)), (10, itG G sv win (i + 1) (ahead ++ List.replicate k i))]
theorem unL_ok (G : Nat) (sv av : Value) (win i : Int) (k : Nat) (ahead : List Int) : ∀ q ∈ unL G sv av win i k ahead, FactOk q.2 := by
  intro q hq
  simp only [unL, List.mem_cons, List.not_mem_nil, or_false] at hq
  rcases hq with rfl | rfl | rfl | rfl | rfl <;> first | exact fullG_ok _ _ _ _ | exact repF_ok _ _ _ | exact pairF_ok _ _ _ _ | exact catF_ok _ _ | exact itG_ok _ _ _ _ _
theorem rows_itG {G : Nat} {x : World} (hG : G ≤ x.heap.size) (win : Int) (A A' : Option Addr) (n c n' c' : Nat) (i : Int) (l : List Int) (hr : OwI x G (.slice A' n' c') l) : Calls Tryz.prog 38 #[ptV (.slice A n c) win, .int .i64 i, .slice A' n' c'] x fun e w' =>
    (∃ v, e = .returned v ∧ (itG G (.slice A n c) win i l).1 v ∧ (itG G (.slice A n c) win i l).2 v w') ∧ Below x.heap.size x w' := by
  refine (rows_made win A A' n c n' c' i x).mono ?_
  rintro e w' ⟨rfl, rfl⟩
  refine ⟨⟨_, rfl, ⟨_, rfl⟩, _, _, rfl, hG, ?_, ?_, ?_, ((hr.alloc _).alloc _).alloc _⟩, (((Below.refl _ _).alloc (Nat.le_refl _) _).alloc (by simp) _).alloc (by simp; omega) _⟩
  · exact ((Blk.new_ rfl _ _).alloc _).alloc _
  · exact (Blk.new_ (by simp) _ _).alloc _
  · exact Blk.new_ (by simp) _ _
def unC (B : Nat) (W : World) (J : List (List Int) → World → Prop) (pre : List (List Int)) (x : World) : Prop := Below B W x ∧ B ≤ x.heap.size ∧ J pre x
theorem unC_below {B B' : Nat} {W : World} {J : List (List Int) → World → Prop} {pre : List (List Int)} (hJ : OwnFrom B' J) : ∀ w w', unC B W J pre w → Below w.heap.size w w' → unC B W J pre w' := by
  rintro w w' ⟨h1, h2, h3⟩ hb
  exact ⟨h1.trans (hb.mono h2), Nat.le_trans h2 hb.size, own_from_below hJ h3 hb⟩

set_option maxRecDepth 100000 in
set_option maxHeartbeats 4000000 in
theorem rows1_it (n₀ Ball : Nat) (p : List Sp) (win : Int) (sv : Value) (hsp : Span p) (hp : p.length ≤ 100) : ∀ (d i : Nat), p.length - i = d → i ≤ p.length → ∀ (ahead : List Int) (av : Value) (Bi Bp Ba : Nat) (w : World), ahead.length ≤ 3 * i →
    RowsPre n₀ Ball w Bi Bp Ba p win sv i ahead av →
    ItG Tryz.prog 45 #[.pointer (some ⟨Bi, 0, none⟩), .pointer (some ⟨Bp, 0, none⟩), .pointer (some ⟨Ba, 0, none⟩)] rdV (KpB n₀ Ball) (rowsL (p.drop i) i ahead) w := by
  intro d
  induction d using Nat.strongRecOn with
  | _ d ih =>
  intro i hd hi ahead av Bi Bp Ba w hal hpre l J W hW hJ hY h0
  have hBl : Ball < w.heap.size := hpre.ok Ball (.inl rfl)
  have hpreW := hpre.kp (KpB.of_below hBl hpre.n0 hW)
  clear hpre
  have hBW : Ball < W.heap.size := Nat.lt_of_lt_of_le hBl hW.size
  obtain ⟨Aa, na, ca, hav⟩ : ∃ A n c, av = .slice A n c := by
    obtain ⟨A, c, e⟩ := rd_form hpreW.row.rd
    exact ⟨A, _, c, e⟩
  obtain ⟨As, cs, hsv⟩ := rd_form hpreW.rd
  subst hav hsv
  obtain ⟨W1, hW1⟩ : ∃ W1, W.alloc (.cells #[.func (.yield l) #[] #[]] 72) = W1 := ⟨_, rfl⟩
  have hB1 : Below W.heap.size W W1 := by rw [← hW1]; exact (Below.refl _ _).alloc (Nat.le_refl _) _
  have hk1 := KpB.of_below hBW hpreW.n0 hB1
  have hz1 : W1.heap.size = W.heap.size + 1 := by rw [← hW1]; simp
  have hb4 : Blk W1 W.heap.size 72 #[.func (.yield l) #[] #[]] := by rw [← hW1]; exact Blk.new_ rfl _ _
  have h01 : J [] W1 := by rw [← hW1]; exact hJ.alloc _ h0
  have hpre1 := hpreW.kp hk1
  have ci := hpre1.bi.cell 0
  have cp0 := hpre1.bp.cell 0
  have cp1 := hpre1.bp.cell 1
  have ca0 := hpre1.ba.cell 0
  have cy := hb4.cell 0
  simp at ci cp0 cp1 ca0 cy
  have li := hpre1.bi.lt
  have lp := hpre1.bp.lt
  have la := hpre1.ba.lt
  by_cases hip : i = p.length
  · have hz : ((i : Int) == p.length) = true := by simp [hip]
    have hrow : rowsL (p.drop i) i ahead = [ahead] := by rw [hip, List.drop_length]; rfl
    rw [hrow] at hY ⊢
    obtain ⟨fn, tmps, assign, body, hy, hR⟩ := yield_any 2 (hY [] ahead (.slice Aa na ca) W1 (List.prefix_refl _) h01 hpre1.row.1 (by omega))
    refine (callsIn_wide (n := 3)).1 ?_
    refine callsIn_of_wp_marks Tryz.func45 rfl trivial ?_ rfl
    simp only [Tryz.ntmps45, List.size_toArray, List.length_cons, List.length_nil, Nat.reduceAdd, Nat.reduceSub, Array.replicate_succ, Array.replicate_zero, List.push_toArray, List.append_toArray, List.nil_append, List.cons_append]
    clear hY ih hpreW
    replace hpre1 := hide hpre1
    gi_wp2
    refine hR.mono ?_
    rintro e W2 ⟨rfl, hJ2, hk2, hf2⟩
    gi_wp2
    exact rf_ret_own (ds := []) hJ (fun W' => results_none rfl _ _ _) (fun W' h => ⟨⟨_, rfl⟩, h⟩) rfl (fun _ h => by simp at h) List.nodup_nil (fun _ h => by simp at h) hJ2
  · have hil : i < p.length := by omega
    have hz : ((i : Int) == p.length) = false := by simp; omega
    have hii : (i : Int) < p.length := by omega
    have hs := List.getElem?_eq_getElem hil
    obtain ⟨A', cap', b, off, eP, h2, h3, h4, h5⟩ := hpre1.rd
    injection eP with eP1 _ eP3
    subst eP1 eP3
    obtain ⟨rfl, hbn⟩ := h4 (by omega)
    have hb : b < W1.heap.size := Nat.lt_of_lt_of_le hbn hpre1.n0
    obtain ⟨vs, ⟨cv, rfl, hcv⟩, hat⟩ := h5 i p[i] hs
    obtain ⟨c0, c1, c2, c3, c4, c5⟩ := hat.c6
    obtain ⟨Ac, kc, rfl⟩ := rd_form hcv
    have hspi := hsp p[i] (List.getElem_mem _)
    have hneg := rowsL_neg hs
    have hpos := rowsL_pos hs
    clear h2 h3 h4 h5 hat hcv
    generalize p[i] = s at *
    obtain ⟨neg, kind, mn, mx, strict, cmps⟩ := s
    simp only at c0 c1 c2 c3 c4 c5 hspi hneg hpos
    obtain ⟨W2, hW2⟩ : ∃ W2, W1.alloc (.cells #[.bool neg, .int .i64 kind, .int .i64 mn, .int .i64 mx, .bool strict, .slice Ac cmps.length kc] 45) = W2 := ⟨_, rfl⟩
    have hB2 : Below W1.heap.size W1 W2 := by rw [← hW2]; exact (Below.refl _ _).alloc (Nat.le_refl _) _
    have hB1l : Ball < W1.heap.size := by omega
    have hk2 := KpB.of_below hB1l hpre1.n0 hB2
    have hz2 : W2.heap.size = W1.heap.size + 1 := by rw [← hW2]; simp
    have hb5 : Blk W2 W1.heap.size 45 #[.bool neg, .int .i64 kind, .int .i64 mn, .int .i64 mx, .bool strict, .slice Ac cmps.length kc] := by rw [← hW2]; exact Blk.new_ rfl _ _
    have h02 : J [] W2 := own_from_below hJ h01 hB2
    have hpre2 := hpre1.kp hk2
    have hb42 := hb4.below hB2 hb4.lt
    have di := hpre2.bi.cell 0
    have dp0 := hpre2.bp.cell 0
    have dp1 := hpre2.bp.cell 1
    have da0 := hpre2.ba.cell 0
    have dy := hb42.cell 0
    have e0 := hb5.cell 0
    have e2 := hb5.cell 2
    have e3 := hb5.cell 3
    simp at di dp0 dp1 da0 dy e0 e2 e3
    rw [hz1] at e0 e2 e3
    have mi := hpre2.bi.lt
    have mp := hpre2.bp.lt
    have ma := hpre2.ba.lt
    have my := hb42.lt
    have m5 : W.heap.size + 1 < W2.heap.size := by have := hb5.lt; omega
    have safe4 : Safe Ball W2 W.heap.size := Safe.new hpreW.ok hBW (hB1.trans (hB2.mono (by omega))) (Nat.le_refl _) (by omega)
    have safe5 : Safe Ball W2 W1.heap.size := Safe.new hpre1.ok hB1l hB2 (Nat.le_refl _) (by omega)
    clear hpreW hk1 hb4 h01 h0
    replace hpre1 := hide hpre1
    replace hpre2 := hide hpre2
    replace hb5 := hide hb5
    refine (callsIn_wide (n := 3)).1 ?_
    refine callsIn_of_wp_marks Tryz.func45 rfl trivial ?_ rfl
    simp only [Tryz.ntmps45, List.size_toArray, List.length_cons, List.length_nil, Nat.reduceAdd, Nat.reduceSub, Array.replicate_succ, Array.replicate_zero, List.push_toArray, List.append_toArray, List.nil_append, List.cons_append]
    cases neg with
    | true =>
      have hrow := hneg rfl ahead
      rw [hrow] at hY ⊢
      clear hpos hspi
      gi_wp2
      clear c0 c1 c2 c3 c4 c5 e0 e2 e3 ci cp0 cp1 ca0 cy
      replace hz2 := hide hz2
      have hCW : unC W2.heap.size W2 J [] W2 := ⟨Below.refl _ _, Nat.le_refl _, h02⟩
      have hC0 : unC W2.heap.size W2 J [] W2.drew := ⟨(Below.refl _ _).drew, Nat.le_refl _, own_from_below hJ h02 (Below.refl _ _).drew⟩
      have gc := hide fun (b o : Nat) (n : World) (hb : b < W2.heap.size) => (someW_is n hCW).1.cell (p := ⟨b, o, none⟩) hb
      have fi := fun n => (gc.out _ 0 n mi).trans di
      have fp0 := fun n => (gc.out _ 0 n mp).trans dp0
      have fp1 := fun n => (gc.out _ 1 n mp).trans dp1
      have fa := fun n => (gc.out _ 0 n ma).trans da0
      have fy := fun n => (gc.out _ 0 n my).trans dy
      have hw1 : IntKind.i64.wrap ((i : Int) + 1) = (i : Int) + 1 := IntWalk.i64_in _ (by omega)
      replace hCW := hide hCW
      have hok : ∀ q ∈ [(4, itF W2.heap.size (.slice (some ⟨b, off, none⟩) p.length cs) (.slice Aa na ca) win ((i : Int) + 1))], FactOk q.2 := by
        intro q hq
        rw [List.mem_singleton.1 hq]
        exact itF_ok _ _ _ _ _
      replace hok := hide hok
      refine wpIn_wide.2 ?_
      refine wp_region_invT (l := [_, _, _, _, _, _]) (ot := _) rfl (unC W2.heap.size W2 J []) [(4, itF W2.heap.size (.slice (some ⟨b, off, none⟩) p.length cs) (.slice Aa na ca) win ((i : Int) + 1))] [] hC0 (by kernel_rfl) (by kernel_rfl) (fun q hq => (hok.out q hq).inh) (by kernel_rfl) rfl ?_
      repeat (refine wpRel_one rfl (fun K hK => ?_); go_simp; refine hK _ _ ?_; clear hK K)
      refine wpTab_eff (itF W2.heap.size (.slice (some ⟨b, off, none⟩) p.length cs) (.slice Aa na ca) win ((i : Int) + 1)) rfl (fun K hK => ?_)
      go_simp
      refine ⟨fun n => inv_call hCW.out (unC_below hJ) hok.out (rows_itF (someW_is n hCW.out).2.1 win _ _ _ _ _ _ _), fun v hv => ?_⟩
      obtain ⟨bb, rfl⟩ := hv
      refine hK _ _ ?_
      clear hK K
      repeat (refine wpRel_one rfl (fun K hK => ?_); go_simp; refine hK _ _ ?_; clear hK K)
      refine wpRel_nil ?_
      rintro w7 ⟨n7, rfl⟩ hΓ
      obtain ⟨b', e7, hbb, g1, g2, g3⟩ : (itF W2.heap.size (.slice (some ⟨b, off, none⟩) p.length cs) (.slice Aa na ca) win ((i : Int) + 1)).2 _ (someW (unC W2.heap.size W2 J []) W2 n7) := hΓ _ (List.mem_cons_self ..)
      have e8 := itF_eq e7
      subst e8
      have hC7 := someW_is n7 hCW.out
      clear hΓ e7 fi fp0 fp1 fa fy gc hok
      generalize someW (unC W2.heap.size W2 J []) W2 n7 = w7 at *
      have hnext := rowsPre_next hpre2.out hC7.1 hbb g1 g2 g3 (hpre2.out.row.kp (KpB.of_below (hpre2.out.ok Ball (.inl rfl)) hpre2.out.n0 hC7.1))
      have hz7 : W.heap.size ≤ w7.heap.size := by have := hC7.2.1; have := hz2.out; omega
      have hcall : Calls Tryz.prog 45 #[.func (.yield l) #[] #[], .pointer (some ⟨bb + 1, 0, none⟩), .pointer (some ⟨bb, 0, none⟩), .pointer (some ⟨bb + 1 + 1, 0, none⟩)] w7 fun e W' => (∃ v, e = .returned v) ∧ J (rowsL (p.drop (i + 1)) (i + 1) ahead) W' := ih (p.length - (i + 1)) (by omega) (i + 1) rfl (by omega) ahead (.slice Aa na ca) (bb + 1) bb (bb + 1 + 1) w7 (by omega) hnext l J w7 (Below.refl _ _) (own_from_mono hJ hz7) (round_mono hY hz7) hC7.2.2
      clear hnext ih hY g1 g2 g3 hbb hpre1 hpre2 hCW hb5 hC7
      replace hcall := hide hcall
      go_wp2_with (go_at_call 45; (with_reducible refine hcall.out.mono ?_); rintro e w8 ⟨⟨v8, rfl⟩, hJ8⟩)
      gi_wp2
      exact rf_ret_own (ds := []) hJ (fun W' => results_none rfl _ _ _) (fun W' h => ⟨⟨_, rfl⟩, h⟩) rfl (fun _ h => by simp at h) List.nodup_nil (fun _ h => by simp at h) hJ8
    | false =>
      have hrow := hpos rfl ahead
      rw [hrow] at hY ⊢
      have hsp1 : 1 ≤ mn ∧ mn ≤ mx ∧ mx ≤ 3 := by
        rcases hspi with h | h
        · cases h
        · exact h
      obtain ⟨m, rfl⟩ : ∃ m : Nat, mn = m := ⟨mn.toNat, by omega⟩
      obtain ⟨x, rfl⟩ : ∃ x : Nat, mx = x := ⟨mx.toNat, by omega⟩
      have htot : ((x : Int) - m + 1).toNat = x + 1 - m := by omega
      simp only [htot] at hY ⊢
      clear hneg hspi htot hrow hpos
      gi_wp2
      clear c0 c1 c2 c3 c4 c5 ci cp0 cp1 ca0 cy di dp0 dp1 da0 e0 e2 e3 dy
      refine wpIn_loop (fun a V => ∃ (k : Nat) (ds : List Nat) (u7 u8 u9 u10 u11 u12 u13 u14 u15 u16 u17 u18 u19 u20 u21 u22 u23 u24 u25 u26 u27 u28 u29 u30 u31 u32 u33 u34 u35 u36 u37 u38 u39 u40 u41 u42 u43 u44 u45 u46 u47 u48 u49 u50 u51 u52 u53 : Value), m ≤ k ∧ k ≤ x + 1 ∧ a = { tmps := #[Value.func (.yield l) #[] #[], Value.pointer (some ⟨Bi, 0, none⟩), Value.pointer (some ⟨Bp, 0, none⟩), Value.pointer (some ⟨Ba, 0, none⟩), Value.pointer (some ⟨W.heap.size, 0, none⟩), Value.pointer (some ⟨W.heap.size + 1, 0, none⟩), Value.int .i64 (k : Nat), u7, u8, u9, u10, u11, u12, u13, u14, u15, u16, u17, u18, u19, u20, u21, u22, u23, u24, u25, u26, u27, u28, u29, u30, u31, u32, u33, u34, u35, u36, u37, u38, u39, u40, u41, u42, u43, u44, u45, u46, u47, u48, u49, u50, u51, u52, u53], defers := ds.map coll } ∧
        J (rowsTo (p.drop (i + 1)) ⟨false, kind, m, x, strict, cmps⟩ i ahead (k - m)) V ∧ KpB n₀ Ball W2 V ∧ DefOk V ds ∧ ds.Nodup ∧ ∀ D ∈ ds, W2.heap.size ≤ D) (fun a _ => x + 1 - (intOf (a.tmps.getD 6 undef)).toNat) ?_ ?_
      · exact ⟨m, [], _, _, _, _, _, _, _, _, _, _, _, _, _, _, _, _, _, _, _, _, _, _, _, _, _, _, _, _, _, _, _, _, _, _, _, _, _, _, _, _, _, _, _, _, _, _, _, Nat.le_refl _, by omega, rfl, by simpa [rowsTo] using h02, KpB.refl _, fun _ h => by simp at h, List.Pairwise.nil, fun _ h => by simp at h⟩
      rintro a V ⟨k, ds, u7, u8, u9, u10, u11, u12, u13, u14, u15, u16, u17, u18, u19, u20, u21, u22, u23, u24, u25, u26, u27, u28, u29, u30, u31, u32, u33, u34, u35, u36, u37, u38, u39, u40, u41, u42, u43, u44, u45, u46, u47, u48, u49, u50, u51, u52, u53, hmk, hkx, rfl, hJV, hkV, hdef, hnd, hge⟩
      have hpreV := hpre2.out.kp hkV
      have hzV := hkV.size
      have di := hpreV.bi.cell 0
      have dp0 := hpreV.bp.cell 0
      have dp1 := hpreV.bp.cell 1
      have da0 := hpreV.ba.cell 0
      simp at di dp0 dp1 da0
      have dy := (hb42.kp safe4 hkV).cell 0
      have e3 := (hb5.out.kp safe5 hkV).cell 3
      simp at dy e3
      rw [hz1] at e3
      have mi := hpreV.bi.lt
      have mp := hpreV.bp.lt
      have ma := hpreV.ba.lt
      have my : W.heap.size < V.heap.size := by omega
      have m5 : W.heap.size + 1 < V.heap.size := by omega
      by_cases hlt : k ≤ x
      · have hcx : (k : Int) ≤ x := by omega
        gi_wp2
        have hCW : unC V.heap.size V J (rowsTo (p.drop (i + 1)) ⟨false, kind, m, x, strict, cmps⟩ i ahead (k - m)) V := ⟨Below.refl _ _, Nat.le_refl _, hJV⟩
        have hC0 : unC V.heap.size V J (rowsTo (p.drop (i + 1)) ⟨false, kind, m, x, strict, cmps⟩ i ahead (k - m)) V.drew := ⟨(Below.refl _ _).drew, Nat.le_refl _, own_from_below hJ hJV (Below.refl _ _).drew⟩
        generalize hcc : unC V.heap.size V J (rowsTo (p.drop (i + 1)) ⟨false, kind, m, x, strict, cmps⟩ i ahead (k - m)) = C at hCW hC0
        have hCb : ∀ w w', C w → Below w.heap.size w w' → C w' := by rw [← hcc]; exact unC_below hJ
        have hC1 : ∀ y, C y → Below V.heap.size V y ∧ V.heap.size ≤ y.heap.size := by rw [← hcc]; exact fun y h => ⟨h.1, h.2.1⟩
        have gc := hide fun (b o : Nat) (n : World) (hb : b < V.heap.size) => (hC1 _ (someW_is n hCW)).1.cell (p := ⟨b, o, none⟩) hb
        have fi := fun n => (gc.out _ 0 n mi).trans di
        have fp0 := fun n => (gc.out _ 0 n mp).trans dp0
        have fp1 := fun n => (gc.out _ 1 n mp).trans dp1
        have fa := fun n => (gc.out _ 0 n ma).trans da0
        have hw1 : IntKind.i64.wrap ((i : Int) + 1) = (i : Int) + 1 := IntWalk.i64_in _ (by omega)
        replace hCW := hide hCW
        have hok := hide (unL_ok V.heap.size (.slice (some ⟨b, off, none⟩) p.length cs) (.slice Aa na ca) win i k ahead)
        replace hz2 := hide hz2
        replace hz1 := hide hz1
        refine wpIn_wide.2 ?_
        refine wp_region_inv C (unL V.heap.size (.slice (some ⟨b, off, none⟩) p.length cs) (.slice Aa na ca) win i k ahead) [(7, [5]), (8, [7]), (9, [8]), (10, [9])] hC0 (by kernel_rfl) (by kernel_rfl) (fun q hq => (hok.out q hq).inh) ?_
        repeat (refine wpRel_one rfl (fun K hK => ?_); go_simp; refine hK _ _ ?_; clear hK K)
        refine wpTab_eff (fullG 3 V.heap.size 1 [.int .i64 i]) rfl (fun K hK => ?_)
        go_simp
        refine ⟨fun n => ?_, fun v hv => ?_⟩
        · have ha := inv_alloc hCW.out hCb hok.out (.cells #[.int .i64 i] 3) n
          exact ⟨ha.1, ha.2, fullG_new (hC1 _ (someW_is n hCW.out)).2⟩
        obtain ⟨g5, rfl⟩ := hv
        refine hK _ _ ?_
        clear hK K
        repeat (refine wpRel_one rfl (fun K hK => ?_); go_simp; refine hK _ _ ?_; clear hK K)
        refine wpTab_eff (repF V.heap.size k i) rfl (fun K hK => ?_)
        go_simp
        refine ⟨fun n ho => ?_, fun v hv => ?_⟩
        · obtain ⟨g, e1, e2, e3⟩ : (fullG 3 V.heap.size 1 [.int .i64 i]).2 (.slice (some ⟨g5, 0, none⟩) 1 1) (someW C V n) := ho
          have eg : g5 = g := by simpa using e1
          subst eg
          refine inv_call hCW.out hCb hok.out ((repeat_any i k (by omega) (by omega) g5 _ e3).mono ?_)
          rintro e w' ⟨⟨r, rfl, ho⟩, hb⟩
          refine ⟨⟨r, rfl, ?_, ho.mono (hC1 _ (someW_is n hCW.out)).2⟩, hb⟩
          obtain ⟨A, c, e⟩ := ho.form
          exact ⟨A, c, by simpa using e⟩
        obtain ⟨A7, c7, rfl⟩ := hv
        refine hK _ _ ?_
        clear hK K
        repeat (refine wpRel_one rfl (fun K hK => ?_); go_simp; refine hK _ _ ?_; clear hK K)
        refine wpTab_eff (pairF V.heap.size (.slice Aa na ca) k i) rfl (fun K hK => ?_)
        go_simp
        refine ⟨fun n ho => ?_, fun v hv => ?_⟩
        · have ha := inv_alloc hCW.out hCb hok.out (.cells #[.slice Aa na ca, .slice A7 k c7] 28) n
          have ho' : OwI (someW C V n) V.heap.size (.slice A7 k c7) (List.replicate k (i : Int)) := ho
          exact ⟨ha.1, ha.2, ⟨_, rfl⟩, _, _, rfl, (hC1 _ (someW_is n hCW.out)).2, Blk.new_ rfl _ _, ho'.alloc _⟩
        obtain ⟨g8, rfl⟩ := hv
        refine hK _ _ ?_
        clear hK K
        repeat (refine wpRel_one rfl (fun K hK => ?_); go_simp; refine hK _ _ ?_; clear hK K)
        refine wpTab_eff (catF V.heap.size (ahead ++ List.replicate k (i : Int))) rfl (fun K hK => ?_)
        go_simp
        refine ⟨fun n ho => ?_, fun v hv => ?_⟩
        · obtain ⟨g, r, e1, e2, e3, e4⟩ : (pairF V.heap.size (.slice Aa na ca) k i).2 (.slice (some ⟨g8, 0, none⟩) 2 2) (someW C V n) := ho
          have eg : g8 = g := by simpa using e1
          subst eg
          have hCn := hC1 _ (someW_is n hCW.out)
          have hrd : RdI (someW C V n) (someW C V n).heap.size (.slice Aa na ca) ahead := hpreV.row.rd.below hCn.1 hCn.2
          refine inv_call hCW.out hCb hok.out ((concat2 ahead (List.replicate k (i : Int)) _ r g8 _ hrd e4.rd e3 (by simp; omega) (by simp; omega)).mono ?_)
          rintro e w' ⟨⟨r, rfl, ho⟩, hb⟩
          refine ⟨⟨r, rfl, ?_, ho.mono hCn.2⟩, hb⟩
          obtain ⟨A, c, e⟩ := ho.form
          exact ⟨A, _, c, e⟩
        obtain ⟨A9, n9, c9, rfl⟩ := hv
        refine hK _ _ ?_
        clear hK K
        repeat (refine wpRel_one rfl (fun K hK => ?_); go_simp; refine hK _ _ ?_; clear hK K)
        refine wpTab_eff (itG V.heap.size (.slice (some ⟨b, off, none⟩) p.length cs) win ((i : Int) + 1) (ahead ++ List.replicate k (i : Int))) rfl (fun K hK => ?_)
        go_simp
        refine ⟨fun n ho => ?_, fun v hv => ?_⟩
        · exact inv_call hCW.out hCb hok.out (rows_itG (hC1 _ (someW_is n hCW.out)).2 win _ _ _ _ _ _ _ _ ho)
        obtain ⟨bb, rfl⟩ := hv
        refine hK _ _ ?_
        clear hK K
        repeat (refine wpRel_one rfl (fun K hK => ?_); go_simp; refine hK _ _ ?_; clear hK K)
        refine wpRel_nil ?_
        rintro w7 ⟨n7, rfl⟩ hΓ
        obtain ⟨b', r, e7, hbb, g1, g2, g3, g4⟩ : (itG V.heap.size (.slice (some ⟨b, off, none⟩) p.length cs) win ((i : Int) + 1) (ahead ++ List.replicate k (i : Int))).2 _ (someW C V n7) := hΓ _ (List.mem_cons_self ..)
        have e8 := itF_eq e7
        subst e8
        have hC7 := someW_is n7 hCW.out
        have hC71 := hC1 _ hC7
        clear hΓ e7 fi fp0 fp1 fa gc hok
        have hJ7 : J (rowsTo (p.drop (i + 1)) ⟨false, kind, m, x, strict, cmps⟩ i ahead (k - m)) (someW C V n7) := by
          rw [← hcc] at hC7 ⊢
          exact hC7.2.2
        generalize someW C V n7 = w7 at *
        have hz2o := hz2.out
        have hz1o := hz1.out
        have hk7 : KpB n₀ Ball V w7 := KpB.of_below (hpreV.ok Ball (.inl rfl)) hpreV.n0 hC71.1
        have hnext := rowsPre_next hpreV hC71.1 hbb g1 g2 g3 (ahead' := ahead ++ List.replicate k (i : Int)) ⟨⟨_, g4⟩, fun g hg => Safe.new hpreV.ok (hpreV.ok Ball (.inl rfl)) hC71.1 (World.ownsRow.lt g4 g hg).1 (World.ownsRow.lt g4 g hg).2⟩
        have hit := ih (p.length - (i + 1)) (by omega) (i + 1) rfl (by omega) (ahead ++ List.replicate k (i : Int)) r (bb + 1) bb (bb + 1 + 1) w7 (by simp; omega) hnext
        have hdef7 : DefOk w7 ds := fun D hD => (hC71.1.block D (hdef.lt D hD)).trans (hdef D hD)
        have hW7 : W.heap.size ≤ w7.heap.size := by have := hC71.2; omega
        have safe7 := (safe4.kp hkV).kp hk7
        have hb47 := (hb42.kp safe4 hkV).kp (safe4.kp hkV) hk7
        have hk27 := hkV.trans hk7
        have hsucc : rowsTo (p.drop (i + 1)) ⟨false, kind, m, x, strict, cmps⟩ i ahead (k + 1 - m) = rowsTo (p.drop (i + 1)) ⟨false, kind, m, x, strict, cmps⟩ i ahead (k - m) ++ rowsL (p.drop (i + 1)) (i + 1) (ahead ++ List.replicate k (i : Int)) := by
          rw [show k + 1 - m = k - m + 1 by omega, rowsTo_succ]
          have : (m : Int).toNat + (k - m) = k := by simp; omega
          simp only [this]
        have hfull : ∃ t, rowsTo (p.drop (i + 1)) ⟨false, kind, m, x, strict, cmps⟩ i ahead (x + 1 - m) = rowsTo (p.drop (i + 1)) ⟨false, kind, m, x, strict, cmps⟩ i ahead (k + 1 - m) ++ t := rowsTo_le _ _ _ _ (by omega)
        rw [hsucc] at hfull
        have hpre7 := hnext
        replace hsucc := hide hsucc
        replace hfull := hide hfull
        replace hpre7 := hide hpre7
        clear hnext g1 g2 g3 g4 hC7 hCW hcc hCb hC1 hpreV di dp0 dp1 da0 dy e3 hJV
        generalize rowsTo (p.drop (i + 1)) ⟨false, kind, m, x, strict, cmps⟩ i ahead (k - m) = acc at *
        generalize rowsL (p.drop (i + 1)) (i + 1) (ahead ++ List.replicate k (i : Int)) = inner at *
        gi_wp2
        refine' rf_it (gf := 45) (lb := #[.pointer (some ⟨bb + 1, 0, none⟩), .pointer (some ⟨bb, 0, none⟩), .pointer (some ⟨bb + 1 + 1, 0, none⟩)]) rfl (enters_of Tryz.func45 (by kernel_rfl) rfl) hit (Below.refl _ _) KpB.trans
          (fun Y j o o' hj ho hc => KpB.putObj (Nat.le_trans hpre7.out.n0 hj) (Nat.lt_of_lt_of_le (hpre7.out.ok Ball (.inl rfl)) hj) ho hc)
          (fun x v _ X Y row ⟨base, hs⟩ hg hr => ⟨base, owi_grown hs hg (fun r e => (hr r e).2)⟩) (fun q X => J (acc ++ q) X ∧ KpB n₀ Ball w7 X ∧ DefOk X ds) ?own ⟨by simpa using hJ7, KpB.refl _, hdef7⟩ _ ?assign ?body ?done
        case own =>
          rintro q X Y row ⟨h1, h2, h3⟩ hg hr
          refine ⟨hJ _ X Y row h1 hg (fun r e => ⟨Nat.le_trans hW7 (hr r e).1, (hr r e).2⟩), h2.trans (KpB.of_grown (Nat.le_trans hpre7.out.n0 h2.size) hg (fun r e => ⟨Nat.le_trans hpre7.out.n0 (hr r e).1, (hr r e).2⟩) (h2.box hpre7.out.box)), fun D hD => ?_⟩
          exact (hg.block D (h3.lt D hD) (fun e => by have := (hr D e.symm).1; have := hdef7.lt D hD; omega)).trans (h3 D hD)
        case assign =>
          intro l' v' X K hK
          gi_wp2
          exact hK
        case body =>
          rintro l' pre' x' v' X hl' hpx ⟨h1, h2, h3⟩ hrd hsz
          have dy := (hb47.kp safe7 h2).cell 0
          simp at dy
          obtain ⟨fn, tmps, assign, body, hy, hR⟩ := yield_any 0 (hY (acc ++ pre') x' v' X (by
            obtain ⟨t, ht⟩ := hfull.out
            rw [ht, List.append_assoc, List.append_assoc]
            obtain ⟨t2, ht2⟩ := hpx
            exact ⟨t2 ++ t, by rw [← ht2]; simp⟩) h1 hrd (by omega))
          have hR' : RoundIn (Fence.wide.inRound l') 0 Tryz.prog l fn tmps assign body X _ := hR
          obtain ⟨Av, cv', hv'⟩ := hrd.choose_spec.form
          subst hv'
          gi_wp2
          refine hR'.mono ?_
          rintro e X2 ⟨rfl, hJ2, hk2, hf2⟩
          replace hJ2 := hide hJ2
          replace hk2 := hide hk2
          replace hf2 := hide hf2
          gi_wp2
          refine ⟨keeps_from_mono hf2.out hW7, hk2.out, by rw [← List.append_assoc]; exact hJ2.out, h2.trans hk2.out, fun D hD => hf2.out.same D _ (by have := hge D hD; omega) (h3 D hD) rfl⟩
        case done =>
          rintro D X hD ⟨h1, h2, h3⟩ hKD
          have hdX : DefOk X (D :: ds) := by
            intro D' h
            rcases List.mem_cons.1 h with rfl | h
            · exact hKD
            · exact h3 D' h
          have hnX : (D :: ds).Nodup := List.nodup_cons.2 ⟨fun h => by have := hdef7.lt D h; omega, hnd⟩
          have hgX : ∀ D' ∈ D :: ds, W2.heap.size ≤ D' := by
            intro D' h
            rcases List.mem_cons.1 h with rfl | h
            · have := hC71.2; omega
            · exact hge D' h
          rw [← hsucc.out] at h1
          have hk2X := hk27.trans h2
          clear hY ih hit hfull hpre7 hb47 h2 h3 hKD hdef7 hdef hnd hge hJ7
          gi_wp2
          refine ⟨⟨k + 1, D :: ds, _, _, _, _, _, _, _, _, _, _, _, _, _, _, _, _, _, _, _, _, _, _, _, _, _, _, _, _, _, _, _, _, _, _, _, _, _, _, _, _, _, _, _, _, _, _, _, by omega, by omega, rfl, h1, hk2X, hdX, hnX, hgX⟩, ?_⟩
          simp [intOf]
          omega
      · obtain rfl : k = x + 1 := by omega
        have hcx : ¬ ((x + 1 : Nat) : Int) ≤ x := by omega
        clear hY ih
        gi_wp2
        exact rf_ret_own (ds := ds) hJ (fun W' => results_none rfl _ _ _) (fun W' h => ⟨⟨_, rfl⟩, h⟩) rfl hdef hnd (fun D hD => by have := hge D hD; have := hz2; omega) hJV
end Go.Proofs.YtmmbblfmhcegcaaGreat
