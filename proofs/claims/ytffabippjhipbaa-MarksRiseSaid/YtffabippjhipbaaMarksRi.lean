import Derived.Test.YtffabippjhipbaaMarksFl
namespace Go.Proofs.Ytffabippjhipbaa
open Go.RowKit Go.Shelf
attribute [local go_sem] grown_cell grown_frozen relVal relEff dDecl
/-- A mark v of source k, behind the setting of source p's to q. -/
def stepM (p q k v : Int) : Int := if p = k ∧ v < q ∧ q ≤ 1099511627776 then q else v
def upTo (f g : Nat → Int) (k v : Int) : Nat → Int
  | 0 => v
  | i + 1 => stepM (f i) (g i) k (upTo f g k v i)
theorem step_set {a b c d p q : Int} (hr : rightF a b c d = true) : (if setOk a b c d p q then setV a b c d p q else mar a b c d) = mar (stepM p q 0 a) (stepM p q 1 b) (stepM p q 2 c) (stepM p q 3 d) := by
  simp only [rightF, decide_eq_true_eq] at hr
  obtain ⟨⟨a0, a1⟩, ⟨b0, b1⟩, ⟨c0, c1⟩, d0, d1⟩ := hr
  by_cases h0 : p = 0
  · subst h0
    by_cases h : a < q ∧ q ≤ 1099511627776
    · have e1 : 0 ≤ q := by omega
      have e2 : a ≤ q := by omega
      simp [setOk, setV, stepM, get4, h, e1, e2]
    · by_cases h' : q = a
      · subst h'; simp [setOk, setV, stepM, get4]
      · have e1 : ¬(0 ≤ q ∧ q ≤ 1099511627776 ∧ a ≤ q) := by omega
        simp [setOk, stepM, get4, h, e1]
  by_cases h1 : p = 1
  · subst h1
    by_cases h : b < q ∧ q ≤ 1099511627776
    · have e1 : 0 ≤ q := by omega
      have e2 : b ≤ q := by omega
      simp [setOk, setV, stepM, get4, h, e1, e2]
    · by_cases h' : q = b
      · subst h'; simp [setOk, setV, stepM, get4]
      · have e1 : ¬(0 ≤ q ∧ q ≤ 1099511627776 ∧ b ≤ q) := by omega
        simp [setOk, stepM, get4, h, e1]
  by_cases h2 : p = 2
  · subst h2
    by_cases h : c < q ∧ q ≤ 1099511627776
    · have e1 : 0 ≤ q := by omega
      have e2 : c ≤ q := by omega
      simp [setOk, setV, stepM, get4, h, e1, e2]
    · by_cases h' : q = c
      · subst h'; simp [setOk, setV, stepM, get4]
      · have e1 : ¬(0 ≤ q ∧ q ≤ 1099511627776 ∧ c ≤ q) := by omega
        simp [setOk, stepM, get4, h, e1]
  by_cases h3 : p = 3
  · subst h3
    by_cases h : d < q ∧ q ≤ 1099511627776
    · have e1 : 0 ≤ q := by omega
      have e2 : d ≤ q := by omega
      simp [setOk, setV, stepM, get4, h, e1, e2]
    · by_cases h' : q = d
      · subst h'; simp [setOk, setV, stepM, get4]
      · have e1 : ¬(0 ≤ q ∧ q ≤ 1099511627776 ∧ d ≤ q) := by omega
        simp [setOk, stepM, get4, h, e1]
  rw [if_neg (by simp only [setOk, decide_eq_true_eq]; omega)]
  simp [stepM, h0, h1, h2, h3]
theorem step_right {a b c d p q : Int} (hr : rightF a b c d = true) : rightF (stepM p q 0 a) (stepM p q 1 b) (stepM p q 2 c) (stepM p q 3 d) = true := by
  simp only [rightF, decide_eq_true_eq] at hr ⊢
  unfold stepM
  refine ⟨?_, ?_, ?_, ?_⟩ <;> split <;> omega
theorem step_up (p q k v : Int) : v ≤ stepM p q k v := by
  unfold stepM
  split <;> omega
theorem step_as {a b c d p q : Int} (hr : rightF a b c d = true) (j : Nat) (hj : j < 4) :
    get4 (stepM p q 0 a) (stepM p q 1 b) (stepM p q 2 c) (stepM p q 3 d) j = get4 a b c d j ∨
    get4 a b c d j < get4 (stepM p q 0 a) (stepM p q 1 b) (stepM p q 2 c) (stepM p q 3 d) j ∧ setOk a b c d p q = true ∧ p = j ∧ q = get4 (stepM p q 0 a) (stepM p q 1 b) (stepM p q 2 c) (stepM p q 3 d) j := by
  simp only [rightF, decide_eq_true_eq] at hr
  have hc : j = 0 ∨ j = 1 ∨ j = 2 ∨ j = 3 := by omega
  rcases hc with rfl | rfl | rfl | rfl
  · by_cases h : p = 0 ∧ a < q ∧ q ≤ 1099511627776
    · right
      obtain ⟨rfl, h1, h2⟩ := h
      have e1 : 0 ≤ q := by omega
      have e2 : a ≤ q := by omega
      simp [get4, setOk, stepM, h1, h2, e1, e2]
    · left
      simp only [get4, stepM]
      simp [h]
  · by_cases h : p = 1 ∧ b < q ∧ q ≤ 1099511627776
    · right
      obtain ⟨rfl, h1, h2⟩ := h
      have e1 : 0 ≤ q := by omega
      have e2 : b ≤ q := by omega
      simp [get4, setOk, stepM, h1, h2, e1, e2]
    · left
      simp only [get4, stepM]
      simp [h]
  · by_cases h : p = 2 ∧ c < q ∧ q ≤ 1099511627776
    · right
      obtain ⟨rfl, h1, h2⟩ := h
      have e1 : 0 ≤ q := by omega
      have e2 : c ≤ q := by omega
      simp [get4, setOk, stepM, h1, h2, e1, e2]
    · left
      simp only [get4, stepM]
      simp [h]
  · by_cases h : p = 3 ∧ d < q ∧ q ≤ 1099511627776
    · right
      obtain ⟨rfl, h1, h2⟩ := h
      have e1 : 0 ≤ q := by omega
      have e2 : d ≤ q := by omega
      simp [get4, setOk, stepM, h1, h2, e1, e2]
    · left
      simp only [get4, stepM]
      simp [h]
theorem get4_cell {w : World} {g : Nat} {t : TypeId} {a b c d : Int} (h : Blk w g t #[.int .i64 a, .int .i64 b, .int .i64 c, .int .i64 d]) (j : Nat) (hj : j < 4) : w.cell? ⟨g, j, none⟩ = some (.int .i64 (get4 a b c d j)) := by
  rw [h.cell]
  have hc : j = 0 ∨ j = 1 ∨ j = 2 ∨ j = 3 := by omega
  rcases hc with rfl | rfl | rfl | rfl <;> simp [get4]

set_option maxRecDepth 100000 in
set_option maxHeartbeats 4000000 in
theorem marksRise_walk (a b c d s : Int) (base : Option Addr) (bl off len cap : Nat) (w : World) (f g : Nat → Int) (hbl : 0 < len → base = some ⟨bl, off, none⟩ ∧ bl < w.heap.size) (hcap : len ≤ cap)
   (hl : ∀ i, i < len → w.cell? ⟨bl, off + i * 2, none⟩ = some (.int .i64 (f i)) ∧ w.cell? ⟨bl, off + i * 2 + 1, none⟩ = some (.int .i64 (g i))) :
    Calls Try.prog 4 #[mar a b c d, .slice base len cap, .int .i64 s] w fun e w' => e = .returned (.bool true) ∧ Below w.heap.size w w' := by
  by_cases hlen : ¬ len ≤ 60
  · go_enter Try.func4, Try.ntmps4
    have hd : decide (60 < (len : Int)) = true := by simp; omega
    go_wp2_with (first | (go_at_call 11; refine (stay (G := w.heap.size + 1) (rright_any _ _ _ _ _) (by first | assumption | (simp; done))).mono ?_; rintro e w1 ⟨rfl, hc1, hz1, hB1⟩) | (go_at_call 18; refine (stay (G := w.heap.size + 1) (wakes_true _) (by first | assumption | (simp; done))).mono ?_; rintro e w1 ⟨rfl, hc1, hz1, hB1⟩))
    go_ret
    refine ⟨rfl, ?_⟩
    repeat (first | exact Below.refl _ _ | refine Below.trans ?_ (Below.mono (Hid.out ‹Hid (Below _ _ _)›) (by omega)) | refine Below.alloc ?_ (by omega) _)
  replace hlen := Decidable.not_not.1 hlen
  cases hr : rightF a b c d
  · go_enter Try.func4, Try.ntmps4
    go_wp2_with (first | (go_at_call 11; refine (stay (G := w.heap.size + 1) (rright_any _ _ _ _ _) (by first | assumption | (simp; done))).mono ?_; rintro e wa ⟨rfl, hca, hza, hBa⟩) | (go_at_call 18; refine (stay (G := w.heap.size + 1) (wakes_true _) (by first | assumption | (simp; done))).mono ?_; rintro e w1 ⟨rfl, hc1, hz1, hB1⟩))
    go_ret
    refine ⟨rfl, ?_⟩
    refine Below.trans ?_ (Below.mono (Hid.out ‹Hid (Below _ _ _)›) (by omega))
    refine Below.trans ?_ (Below.mono (Hid.out hBa) (by omega))
    repeat (first | exact Below.refl _ _ | refine Below.trans ?_ (Below.mono (Hid.out ‹Hid (Below _ _ _)›) (by omega)) | refine Below.alloc ?_ (by omega) _)
  go_enter Try.func4, Try.ntmps4
  go_wp2_with (go_at_call 11; refine (stay (rright_any _ _ _ _ _) (Nat.le_refl _)).mono ?_; rintro e w1 ⟨rfl, hc1, hz1, hB1⟩)
  have hw1 : w.heap.size < w1.heap.size := by simpa [Nat.add_one_le_iff] using hz1
  have s0 : Below w.heap.size w (w1.alloc (.cells #[.int .i64 a, .int .i64 b, .int .i64 c, .int .i64 d] 22)) := (((Below.refl _ _).alloc (Nat.le_refl _) _).trans (hB1.out.mono (by simp))).alloc (by omega) _
  have s1 : Blk (w1.alloc (.cells #[.int .i64 a, .int .i64 b, .int .i64 c, .int .i64 d] 22)) w.heap.size 22 #[.int .i64 a, .int .i64 b, .int .i64 c, .int .i64 d] := ((Blk.new _ _ _).below hB1.out (by simp)).alloc _
  have s2 : Blk (w1.alloc (.cells #[.int .i64 a, .int .i64 b, .int .i64 c, .int .i64 d] 22)) w1.heap.size 22 #[.int .i64 a, .int .i64 b, .int .i64 c, .int .i64 d] := Blk.new _ _ _
  have s3 : w1.heap.size < (w1.alloc (.cells #[.int .i64 a, .int .i64 b, .int .i64 c, .int .i64 d] 22)).heap.size := by simp
  generalize w1.alloc _ = W0 at *
  generalize w1.heap.size = B1 at *
  clear hc1 hz1 hB1
  go_loopw [8] (fun i wr => ∃ k : Nat, k ≤ len ∧ i = .int .i64 k ∧ Below w.heap.size w wr ∧ B1 < wr.heap.size ∧ Blk wr w.heap.size 22 #[.int .i64 a, .int .i64 b, .int .i64 c, .int .i64 d] ∧
    Blk wr B1 22 #[.int .i64 (upTo f g 0 a k), .int .i64 (upTo f g 1 b k), .int .i64 (upTo f g 2 c k), .int .i64 (upTo f g 3 d k)] ∧ rightF (upTo f g 0 a k) (upTo f g 1 b k) (upTo f g 2 c k) (upTo f g 3 d k) = true) (fun i _ => len - (intOf i).toNat)
  case atStart => exact ⟨0, by omega, rfl, s0, s3, s1, s2, hr⟩
  case round =>
    obtain ⟨k, hk, rfl, r0, r3, r1, r2, hrk⟩ := hrel
    clear s0 s1 s2 s3 hr
    by_cases hlt : k < len
    · obtain ⟨rfl, hb0⟩ := hbl (by omega)
      have hx := (hl k hlt).1
      have hy := (hl k hlt).2
      rw [← r0.cell (p := ⟨_, _, none⟩) hb0] at hx hy
      have hu1 : upTo f g 0 a (k + 1) = stepM (f k) (g k) 0 (upTo f g 0 a k) := rfl
      have hu2 : upTo f g 1 b (k + 1) = stepM (f k) (g k) 1 (upTo f g 1 b k) := rfl
      have hu3 : upTo f g 2 c (k + 1) = stepM (f k) (g k) 2 (upTo f g 2 c k) := rfl
      have hu4 : upTo f g 3 d (k + 1) = stepM (f k) (g k) 3 (upTo f g 3 d k) := rfl
      generalize f k = p at *
      generalize g k = q at *
      generalize upTo f g 0 a k = a' at *
      generalize upTo f g 1 b k = b' at *
      generalize upTo f g 2 c k = c' at *
      generalize upTo f g 3 d k = d' at *
      generalize hX0 : upTo f g 0 a (k + 1) = x at *
      generalize hX1 : upTo f g 1 b (k + 1) = y at *
      generalize hX2 : upTo f g 2 c (k + 1) = z at *
      generalize hX3 : upTo f g 3 d (k + 1) = u at *
      have hxx := step_set (p := p) (q := q) hrk
      have hrx := step_right (p := p) (q := q) hrk
      have hjj := fun j hj => step_as (p := p) (q := q) hrk j hj
      have hup : leastF a' b' c' d' s ≤ leastF x y z u s := least_up s (by rw [hu1, hu2, hu3, hu4]; exact ⟨step_up _ _ _ _, step_up _ _ _ _, step_up _ _ _ _, step_up _ _ _ _⟩)
      rw [← hu1, ← hu2, ← hu3, ← hu4] at hxx hrx hjj
      have HS : ∀ w, Calls Try.prog 8 #[mar a' b' c' d', .int .i64 p, .int .i64 q] w fun e w' => e = .returned (.tuple #[mar x y z u, .bool (setOk a' b' c' d' p q)]) ∧ Below w.heap.size w w' := fun w => hxx ▸ set_any a' b' c' d' p q w
      have HR : ∀ w, Calls Try.prog 10 #[mar x y z u] w fun e w' => e = .returned (.bool true) ∧ Below w.heap.size w w' := fun w => hrx ▸ right_any x y z u w
      have hs := hide HS
      have hR := hide HR
      have hJ := hide hjj
      have hU := hide hup
      have hRx := hide hrx
      generalize setOk a' b' c' d' p q = okv at *
      have hX := hide (And.intro hX0 (And.intro hX1 (And.intro hX2 hX3)))
      clear HS HR hX0 hX1 hX2 hX3 hxx hrx hjj hup hu1 hu2 hu3 hu4 hl hrk
      obtain ⟨c0, c1, c2, c3⟩ := r2.c4
      have hb1 : bl < wr.heap.size := Nat.lt_of_lt_of_le hb0 r0.size
      go_wp2
      refine wp_region_decl (fun w' => ∃ n, w' = grown wr.heap.size wr n) wr.heap.size 22 #[.int .i64 x, .int .i64 y, .int .i64 z, .int .i64 u] 15 16 (fun k => if k = 11 then some (.tuple #[mar x y z u, .bool okv]) else none) (by decide) (by kernel_rfl) (by kernel_rfl) ⟨wr.drew, (grown_of ((Below.refl _ _).drew) (Nat.le_refl _)).symm⟩ ?_
      repeat (refine wpRel_one rfl (fun K hK => ?_); go_simp; refine hK _ _ ?_; clear hK K)
      refine wpRel_eff (R := (fun v => v = .tuple #[mar x y z u, .bool okv], fun _ _ _ => True)) rfl (fun K hK => ?_)
      go_simp
      refine ⟨fun n => calls_decl (Nat.le_refl _) hs.out, ?_⟩
      refine hK _ _ ?_
      clear hK K
      repeat (refine wpRel_one rfl (fun K hK => ?_); go_simp; refine hK _ _ ?_; clear hK K)
      refine wpRel_eff (R := (NewPtr wr.heap.size, fun _ => NewBlk wr.heap.size 22 4)) rfl (fun K hK => ?_)
      go_simp
      refine ⟨fun n => alloc_decl (Nat.le_refl _) (by rfl) n, fun v hv => ?_⟩
      refine hK _ _ ?_
      clear hK K
      obtain ⟨go, rfl, hgo⟩ := hv
      refine wpRel_eff (R := (fun v => v = undef, fun vs _ => SetBlk wr.heap.size 22 #[.int .i64 x, .int .i64 y, .int .i64 z, .int .i64 u] (vs 15))) rfl (fun K hK => ?_)
      go_simp
      refine ⟨fun n hnb => ?_, ?_⟩
      · obtain ⟨g', cs, e, hg', hh, hsz⟩ := hnb
        obtain ⟨c0', c1', c2', c3', rfl⟩ := Go.Joins.array4 hsz
        obtain rfl : go = g' := by injection e with e; injection e with e; injection e
        have b0 : Blk (grown wr.heap.size wr n) go 22 #[c0', c1', c2', c3'] := hh
        have b1 := b0.set_ 0 (.int .i64 x)
        have b2 := b1.set_ 1 (.int .i64 y)
        have b3 := b2.set_ 2 (.int .i64 z)
        have k0 := b0.cell 0
        have k1 := b1.cell 1
        have k2 := b2.cell 2
        have k3 := b3.cell 3
        have f0 := b0.frozen 0
        have f1 := b1.frozen 1
        have f2 := b2.frozen 2
        have f3 := b3.frozen 3
        obtain ⟨hE, hB⟩ := E1_set4 (x0 := .int .i64 x) (x1 := .int .i64 y) (x2 := .int .i64 z) (x3 := .int .i64 u) hgo b0
        simp at k0 k1 k2 k3
        simp only [k0, k1, k2, k3, f0, f1, f2, f3, Result.andThen_ok, Bool.false_eq_true, if_false]
        exact ⟨grown_E1 (Nat.le_refl _) hE, hE, ⟨go, rfl, hgo, hB⟩⟩
      refine hK _ _ ?_
      clear hK K
      repeat (refine wpRel_one rfl (fun K hK => ?_); go_simp; refine hK _ _ ?_; clear hK K)
      refine wpRel_nil ?_
      rintro w7 ⟨n7, rfl⟩ hΓ
      obtain ⟨go', e7, hgo7, hblk⟩ := hΓ _ (List.mem_cons_self ..)
      obtain rfl : go = go' := by simp [upd] at e7; exact e7
      clear hΓ e7
      have hblk : Blk (grown wr.heap.size wr n7) go 22 #[.int .i64 x, .int .i64 y, .int .i64 z, .int .i64 u] := hblk
      have hB7 := hide (grown_below wr.heap.size wr n7)
      have hz7 := grown_size wr.heap.size wr n7 (Nat.le_refl _)
      have m0 : Below w.heap.size w (grown wr.heap.size wr n7) := r0.trans (hB7.out.mono r0.size)
      have m1 := r1.below hB7.out (by have := r0.size; omega)
      have m2 := r2.below hB7.out r3
      have nx := hx
      have ny := hy
      rw [← hB7.out.cell (p := ⟨_, _, none⟩) hb1] at nx ny
      have m3 : B1 < (grown wr.heap.size wr n7).heap.size := by omega
      have hb7 : bl < (grown wr.heap.size wr n7).heap.size := by omega
      have hs7 : w.heap.size ≤ (grown wr.heap.size wr n7).heap.size := by have := r0.size; omega
      generalize grown wr.heap.size wr n7 = W7 at *
      clear c0 c1 c2 c3 hx hy r0 r1 r2 r3 hB7 hz7 hgo7 hgo
      go_wp2
      go_loopw [11] (fun i wr => ∃ j : Nat, j ≤ 4 ∧ i = .int .i64 j ∧ Below W7.heap.size W7 wr) (fun i _ => 4 - (intOf i).toNat)
      case atStart => exact ⟨0, by omega, rfl, (Below.refl _ _)⟩
      case round =>
        obtain ⟨j, hj, rfl, i0⟩ := hrel
        have t0 : Below w.heap.size w wr := m0.trans (i0.mono hs7)
        have t1 := m1.below i0 (by have := m1.lt; omega)
        have t2 := m2.below i0 m3
        have t4 := hblk.below i0 hblk.lt
        have tx := nx
        have ty := ny
        rw [← i0.cell (p := ⟨_, _, none⟩) hb7] at tx ty
        have t3 : B1 < wr.heap.size := Nat.lt_of_lt_of_le m3 i0.size
        have g2 : go < wr.heap.size := t4.lt
        have g3 : bl < wr.heap.size := Nat.lt_of_lt_of_le hb7 i0.size
        by_cases hlj : j < 4
        · have hv := get4_cell t2 j hlj
          have hv' := get4_cell t4 j hlj
          have hvv := hJ.out j hlj
          generalize get4 a' b' c' d' j = v at *
          generalize get4 x y z u j = v' at *
          clear nx ny m0 m1 m2 m3 hblk t1 t2 t4
          go_wp2
          rcases hvv with rfl | ⟨hlt', rfl, rfl, rfl⟩
          · have ht : decide (v' < v') = false := by simp
            refine wp_region_grown wr.heap.size (Nat.le_refl _) (by kernel_rfl) (by kernel_rfl) ?_
            repeat (any_goals (first | go_big_quiet_step (fail) | quiet_step (fail)))
            refine wpQuiet_nil ?_; intro _ hw'; obtain ⟨nq, hw''⟩ := hw'; subst hw''
            go_wp2
            exact ⟨⟨j + 1, by omega, rfl, i0.trans ((grown_below wr.heap.size wr nq).mono i0.size)⟩, by simp [intOf]; omega⟩
          · have ht : decide (q < v) = false := by simp; omega
            have ht2 : decide (q = v) = false := by simp; omega
            have ht3 : ¬ (q = v) := by omega
            have ht4 : ¬ (v = q) := by omega
            refine wp_region_grown wr.heap.size (Nat.le_refl _) (by kernel_rfl) (by kernel_rfl) ?_
            repeat (any_goals (first | go_big_quiet_step (fail) | quiet_step (fail)))
            refine wpQuiet_nil ?_; intro _ hw'; obtain ⟨nq, hw''⟩ := hw'; subst hw''
            go_wp2
            exact ⟨⟨j + 1, by omega, rfl, i0.trans ((grown_below wr.heap.size wr nq).mono i0.size)⟩, by simp [intOf]; omega⟩
        · have hd : decide ((j : Int) < 4) = false := by simp; omega
          obtain ⟨v0, v1, v2, v3⟩ := t4.c4
          obtain ⟨u0, u1, u2, u3⟩ := t2.c4
          go_wp2
          have HL : ∀ w, Calls Try.prog 12 #[mar a' b' c' d', .int .i64 s] w fun e w' => e = .returned (.int .i64 (leastF a' b' c' d' s)) ∧ Below w.heap.size w w' := fun w => least_any a' b' c' d' s w
          have HM : ∀ w, Calls Try.prog 12 #[mar x y z u, .int .i64 s] w fun e w' => e = .returned (.int .i64 (leastF x y z u s)) ∧ Below w.heap.size w w' := fun w => least_any x y z u s w
          have hL := hide HL
          have hM := hide HM
          have hle := hU.out
          clear HL HM
          generalize leastF a' b' c' d' s = l1 at *
          generalize leastF x y z u s = l2 at *
          have ht : decide (l2 < l1) = false := by simp; omega
          refine wp_region_grown wr.heap.size (Nat.le_refl _) (by kernel_rfl) (by kernel_rfl) ?_
          repeat (any_goals (first | go_big_quiet_step ((first | (go_at_call 10; exact calls_grown (Nat.le_refl _) hR.out) | (go_at_call 12; (with_reducible exact calls_grown (Nat.le_refl _) hL.out)) | (go_at_call 12; (with_reducible exact calls_grown (Nat.le_refl _) hM.out)))) | quiet_step ((first | (go_at_call 10; exact calls_grown (Nat.le_refl _) hR.out) | (go_at_call 12; (with_reducible exact calls_grown (Nat.le_refl _) hL.out)) | (go_at_call 12; (with_reducible exact calls_grown (Nat.le_refl _) hM.out))))))
          refine wpQuiet_nil ?_; intro _ hw'; obtain ⟨nq, hw''⟩ := hw'; subst hw''
          have q0 := grown_below wr.heap.size wr nq
          have q1 := grown_size wr.heap.size wr nq (Nat.le_refl _)
          have z1 := t1.below q0 t1.lt
          have z2 := t2.below q0 t3
          have z4 := t4.below q0 g2
          have z0 := t0.trans (q0.mono t0.size)
          have z3 : B1 < (grown wr.heap.size wr nq).heap.size := by omega
          generalize grown wr.heap.size wr nq = W8 at *
          clear t0 t1 t2 t3 t4 q0 q1 v0 v1 v2 v3 u0 u1 u2 u3
          obtain ⟨v0, v1, v2, v3⟩ := z4.c4
          obtain ⟨u0, u1, u2, u3⟩ := z2.c4
          have f0 := z2.frozen 0
          have f1 := z2.frozen 1
          have f2 := z2.frozen 2
          have f3 := z2.frozen 3
          go_wp2
          obtain ⟨e0, e1, e2, e3⟩ := hX.out
          refine ⟨⟨k + 1, by omega, rfl, ?_, by simpa using z3, ?_, ?_, ?_⟩, by simp [intOf]; omega⟩
          · exact (((z0.setCell (by simp; omega) _).setCell (by simp; omega) _).setCell (by simp; omega) _).setCell (by simp; omega) _
          · exact (((z1.far (by simp; omega) _).far (by simp; omega) _).far (by simp; omega) _).far (by simp; omega) _
          · rw [e0, e1, e2, e3]
            simpa using (((z2.set_ 0 (.int .i64 x)).set_ 1 (.int .i64 y)).set_ 2 (.int .i64 z)).set_ 3 (.int .i64 u)
          · rw [e0, e1, e2, e3]
            exact hRx.out
    · obtain rfl : k = len := by omega
      have hd : decide ((k : Int) < k) = false := by simp
      go_wp2
      obtain ⟨V, hV⟩ : ∃ V, V = wr := ⟨_, rfl⟩
      subst hV
      go_loopw [12] (fun i wq => ∃ j : Nat, j ≤ 4 ∧ i = .int .i64 j ∧ Below V.heap.size V wq) (fun i _ => 4 - (intOf i).toNat)
      case atStart => exact ⟨0, by omega, rfl, Below.refl _ _⟩
      case round =>
        obtain ⟨j, hj, rfl, i0⟩ := hrel
        by_cases hlj : j < 4
        · have hm := get4_cell (r1.below i0 (by have := r0.size; omega)) j hlj
          have hup : get4 (upTo f g 0 a k) (upTo f g 1 b k) (upTo f g 2 c k) (upTo f g 3 d k) j = upTo f g j (get4 a b c d j) k := by
            have hc : j = 0 ∨ j = 1 ∨ j = 2 ∨ j = 3 := by omega
            rcases hc with rfl | rfl | rfl | rfl <;> rfl
          generalize get4 a b c d j = v0 at *
          go_wp2
          go_loopw [13, 14] (fun m i wp => ∃ t : Nat, t ≤ k ∧ m = .int .i64 (upTo f g j v0 t) ∧ i = .int .i64 t ∧ Below V.heap.size V wp ∧ V.heap.size ≤ wp.heap.size) (fun _ i _ => k - (intOf i).toNat)
          case atStart => exact ⟨0, by omega, rfl, rfl, i0, i0.size⟩
          case round =>
            obtain ⟨t, ht, rfl, rfl, k0, k1⟩ := hrel
            by_cases hlt4 : t < k
            · obtain ⟨rfl, hb0⟩ := hbl (by omega)
              have hx := (hl t hlt4).1
              have hy := (hl t hlt4).2
              rw [← (r0.trans (k0.mono r0.size)).cell (p := ⟨_, _, none⟩) hb0] at hx hy
              have hu : upTo f g j v0 (t + 1) = stepM (f t) (g t) j (upTo f g j v0 t) := rfl
              generalize f t = p at *
              generalize g t = q at *
              generalize upTo f g j v0 t = v at *
              have hb4 : bl < wr.heap.size := by have := r0.size; omega
              go_wp2
              all_goals
                refine ⟨⟨t + 1, by omega, ?_, by omega⟩, by simp [intOf]; omega⟩
                rw [hu]
                unfold stepM
                split <;> omega
            · obtain rfl : t = k := by omega
              have hdt : decide ((t : Int) < t) = false := by simp
              have hn := get4_cell (r2.below k0 r3) j hlj
              rw [hup] at hn
              go_wp2
              exact ⟨⟨j + 1, by omega, rfl, k0⟩, by simp [intOf]; omega⟩
        · have hdj : decide ((j : Int) < 4) = false := by simp; omega
          go_wp2_with (go_at_call 18; refine (stay (G := w.heap.size) (wakes_true _) (by have := r0.size; have := i0.size; omega)).mono ?_; rintro e w9 ⟨rfl, hc9, hz9, hB9⟩)
          go_ret
          exact ⟨rfl, (r0.trans (i0.mono r0.size)).trans hB9.out⟩
end Go.Proofs.Ytffabippjhipbaa
