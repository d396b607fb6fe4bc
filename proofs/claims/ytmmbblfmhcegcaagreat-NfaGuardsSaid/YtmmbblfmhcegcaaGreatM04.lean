/- Several texts of one proof: What the tests of terms and comparisons tell (the references' too); sizes; what is too great. | Clones of slices of structs: the walks. | Appending one step, one comparison, to a row of the call's own; blocks that a row's growth leaves as they were. | Automata as the memory holds them; which may be: the walks of nfa.Right and of the reference's. | The plain law of the names that a step asks: sorted and cut to one of each they are a rising row, put together name by name. | slices.Sort and slices.Compact on a row that the call owns. -/
import Derived.Test.YtmmbblfmhcegcaaGreatM03
import Derived.Test.YtmmbblfmhcegcaaGreatM01
import Derived.Lib.SlicesCompact
import Derived.Test.YtmmbblfmhcegcaaGreatShelf
import Derived.Sort.OwnSortedInts

namespace Go.Proofs.YtmmbblfmhcegcaaGreat
open Go.RowKit

set_option maxHeartbeats 2000000 in
theorem rterm_any (k n s r : Int) (w : World) : Calls Tryz.prog 49 #[.agg #[.int .u8 k, .int .i64 n, .int .i64 s, .int .i64 r]] w fun e w' => e = .returned (.bool (Tm.ok ⟨k, n, s, r⟩)) ∧ Below w.heap.size w w' := by
  by_cases h1 : 7 ≤ k
  · have hf : Tm.ok ⟨k, n, s, r⟩ = false := by simp [Tm.ok]; omega
    rw [hf]; clear hf
    go_enter Tryz.func49, Tryz.ntmps49
    go_wp2
    go_ret
    exact ⟨rfl, (Below.refl _ _).alloc (Nat.le_refl _) _⟩
  replace h1 := Int.not_le.1 h1
  by_cases h2 : n < -1099511627776
  · have hf : Tm.ok ⟨k, n, s, r⟩ = false := by simp [Tm.ok]; omega
    rw [hf]; clear hf
    go_enter Tryz.func49, Tryz.ntmps49
    go_wp2
    go_ret
    exact ⟨rfl, (Below.refl _ _).alloc (Nat.le_refl _) _⟩
  replace h2 := Int.not_lt.1 h2
  by_cases h3 : 1099511627776 < n
  · have hf : Tm.ok ⟨k, n, s, r⟩ = false := by simp [Tm.ok]; omega
    rw [hf]; clear hf
    go_enter Tryz.func49, Tryz.ntmps49
    go_wp2
    go_ret
    exact ⟨rfl, (Below.refl _ _).alloc (Nat.le_refl _) _⟩
  replace h3 := Int.not_lt.1 h3
  by_cases h4 : s < 0
  · have hf : Tm.ok ⟨k, n, s, r⟩ = false := by simp [Tm.ok]; omega
    rw [hf]; clear hf
    go_enter Tryz.func49, Tryz.ntmps49
    go_wp2
    go_ret
    exact ⟨rfl, (Below.refl _ _).alloc (Nat.le_refl _) _⟩
  replace h4 := Int.not_lt.1 h4
  by_cases h5 : 26 ≤ s
  · have hf : Tm.ok ⟨k, n, s, r⟩ = false := by simp [Tm.ok]; omega
    rw [hf]; clear hf
    go_enter Tryz.func49, Tryz.ntmps49
    go_wp2
    go_ret
    exact ⟨rfl, (Below.refl _ _).alloc (Nat.le_refl _) _⟩
  replace h5 := Int.not_le.1 h5
  by_cases h6 : r < 0
  · have hf : Tm.ok ⟨k, n, s, r⟩ = false := by simp [Tm.ok]; omega
    rw [hf]; clear hf
    go_enter Tryz.func49, Tryz.ntmps49
    go_wp2
    go_ret
    exact ⟨rfl, (Below.refl _ _).alloc (Nat.le_refl _) _⟩
  replace h6 := Int.not_lt.1 h6
  by_cases h7 : 26 ≤ r
  · have hf : Tm.ok ⟨k, n, s, r⟩ = false := by simp [Tm.ok]; omega
    rw [hf]; clear hf
    go_enter Tryz.func49, Tryz.ntmps49
    go_wp2
    go_ret
    exact ⟨rfl, (Below.refl _ _).alloc (Nat.le_refl _) _⟩
  replace h7 := Int.not_le.1 h7
  by_cases hk : k = 0
  · subst hk
    by_cases hs : s = 0
    · subst hs
      go_enter Tryz.func49, Tryz.ntmps49
      go_wp2
      all_goals go_ret
      all_goals refine ⟨ret_bool (by simp [Tm.ok, *]; try first | omega | rfl | (by_cases hq : r = 0 <;> simp [hq])), (Below.refl _ _).alloc (Nat.le_refl _) _⟩
    · have hs' : (s == 0) = false := by simpa using hs
      go_enter Tryz.func49, Tryz.ntmps49
      go_wp2
      all_goals go_ret
      all_goals refine ⟨ret_bool (by simp [Tm.ok, *]; try first | omega | rfl | (by_cases hq : r = 0 <;> simp [hq])), (Below.refl _ _).alloc (Nat.le_refl _) _⟩
  have hk' : (k == 0) = false := by simpa using hk
  have hk'' : (k != 0) = true := by simpa using hk
  by_cases h5 : k = 5
  · subst h5
    clear hk hk' hk''
    go_enter Tryz.func49, Tryz.ntmps49
    go_wp2
    all_goals go_ret
    all_goals refine ⟨ret_bool (by simp [Tm.ok, *]; try first | omega | rfl | (by_cases hq : r = 0 <;> simp [hq])), (Below.refl _ _).alloc (Nat.le_refl _) _⟩
  have h5' : (k == 5) = false := by simpa using h5
  by_cases h6 : k = 6
  · subst h6
    clear hk hk' hk'' h5 h5'
    go_enter Tryz.func49, Tryz.ntmps49
    go_wp2
    all_goals go_ret
    all_goals refine ⟨ret_bool (by simp [Tm.ok, *]; try first | omega | rfl | (by_cases hq : r = 0 <;> simp [hq])), (Below.refl _ _).alloc (Nat.le_refl _) _⟩
  have h6' : (k == 6) = false := by simpa using h6
  · skip
    go_enter Tryz.func49, Tryz.ntmps49
    go_wp2
    all_goals go_ret
    all_goals refine ⟨ret_bool (by simp [Tm.ok, *]; try first | omega | rfl | (by_cases hq : r = 0 <;> simp [hq])), (Below.refl _ _).alloc (Nat.le_refl _) _⟩

theorem tmc (t : Tm) : t = ⟨t.k, t.n, t.s, t.r⟩ := rfl
theorem term_c (t : Tm) (w : World) : Calls Tryz.prog 78 #[tmV t] w fun e w' => e = .returned (.bool t.ok) ∧ Below w.heap.size w w' := term_any t.k t.n t.s t.r w
theorem rterm_c (t : Tm) (w : World) : Calls Tryz.prog 49 #[tmV t] w fun e w' => e = .returned (.bool t.ok) ∧ Below w.heap.size w w' := rterm_any t.k t.n t.s t.r w

set_option maxHeartbeats 2000000 in
theorem cmp_any (c : Cm) (w : World) : Calls Tryz.prog 57 #[cmV c] w fun e w' => e = .returned (.bool (!c.ok)) ∧ Below w.heap.size w w' := by
  obtain ⟨op, l, r⟩ := c
  have hl := hide (term_c l)
  have hr := hide (term_c r)
  by_cases h0 : op = 0
  · subst h0
    go_enter Tryz.func57, Tryz.ntmps57
    go_wp2
    go_ret
    exact ⟨ret_bool (by simp [Cm.ok]), (Below.refl _ _).alloc (Nat.le_refl _) _⟩
  have h0' : (op == 0) = false := by simpa using h0
  by_cases h7 : 7 ≤ op
  · go_enter Tryz.func57, Tryz.ntmps57
    go_wp2
    go_ret
    exact ⟨ret_bool (by simp [Cm.ok]; omega), (Below.refl _ _).alloc (Nat.le_refl _) _⟩
  replace h7 := Int.not_le.1 h7
  have hv : Cm.ok ⟨op, l, r⟩ = (l.ok && r.ok) := by simp [Cm.ok, h0, h7]
  rw [hv]; clear hv h0
  have hd : decide (7 ≤ op) = false := by simp; omega
  generalize l.ok = bl at *
  generalize r.ok = br at *
  cases bl <;> cases br
  all_goals
    go_enter Tryz.func57, Tryz.ntmps57
    go_wp2_with (first | (go_at_call 78; (with_reducible refine (stayf (G := w.heap.size + 1) (hl.out _) (by first | assumption | (simp; done))).mono ?_); rintro e w1 ⟨rfl, hc1, hf1, hz1, hB1⟩) | (go_at_call 78; (with_reducible refine (stayf (G := w.heap.size + 1) (hr.out _) (by first | assumption | (simp; done))).mono ?_); rintro e w2 ⟨rfl, hc2, hf2, hz2, hB2⟩))
    go_ret
    refine ⟨rfl, ?_⟩
    repeat (first | exact Below.refl _ _ | refine Below.trans ?_ (Below.mono (Hid.out ‹Hid (Below _ _ _)›) (by first | omega | (simp; omega))) | refine Below.setCell ?_ (by first | omega | (simp; done) | (simp; omega)) _ | refine Below.alloc ?_ (by first | omega | (simp; done) | (simp; omega)) _ | refine Below.drew ?_)
end Go.Proofs.YtmmbblfmhcegcaaGreat

namespace Go.Proofs.YtmmbblfmhcegcaaGreat
open Go.RowKit

theorem cmp_info : (Tryz.prog.info? 78).map (fun i => (i.zero, i.size, i.bytes)) = some (some (.agg #[.int .u8 0, .int .u8 0, .int .i64 0, .int .i64 0, .int .i64 0, .int .u8 0, .int .i64 0, .int .i64 0, .int .i64 0]), 9, 72) := by kernel_rfl
theorem step_info : (Tryz.prog.info? 45).map (fun i => (i.zero, i.size, i.bytes)) = some (some (.agg #[.bool false, .int .i64 0, .int .i64 0, .int .i64 0, .bool false, .slice none 0 0]), 6, 64) := by kernel_rfl

theorem cm_one (cs : List Cm) : ∀ u ∈ cs.flatMap Cm.cells, u.oneCell' = true := by
  intro u hu
  obtain ⟨c, -, hu⟩ := List.mem_flatMap.1 hu
  simp only [Cm.cells, List.mem_cons, List.not_mem_nil, or_false] at hu
  rcases hu with rfl | rfl | rfl | rfl | rfl | rfl | rfl | rfl | rfl <;> rfl

/-- The cells of a slice that reads as comparisons. -/
theorem news_cmp {w : World} {B : Nat} {cs : List Cm} {b off : Nat} (h : ∀ i c, cs[i]? = some c → ∃ vs, cmC w B c vs ∧ At w b (off + i * 9) vs) :
    ∀ j u, (cs.flatMap Cm.cells)[j]? = some u → w.cell? ((⟨b, off, none⟩ : Addr).add j) = some u := by
  intro j u hu
  have hlt := (List.getElem?_eq_some_iff.1 hu).1
  rw [flat_len cm_len] at hlt
  have hi : j / 9 < cs.length := by omega
  obtain ⟨vs, ⟨rfl, -⟩, hat⟩ := h (j / 9) cs[j / 9] (List.getElem?_eq_getElem hi)
  have hj : j = j / 9 * 9 + j % 9 := by omega
  rw [hj, flat_get cm_len (List.getElem?_eq_getElem hi) (Nat.mod_lt _ (by omega))] at hu
  have := hat (j % 9) u hu
  rw [Addr.add_lit]
  rw [show off + j = off + j / 9 * 9 + j % 9 by omega]
  exact this

end Go.Proofs.YtmmbblfmhcegcaaGreat

namespace Go.Proofs.YtmmbblfmhcegcaaGreat
open Go.RowKit

theorem own_of_blk {w : World} {g base n size : Nat} {e : TypeId} {cur : Array Value} (h : Blk w g e cur) (hg : base ≤ g) (hs : cur.size = n * size) (hm : n ≤ maxLen) :
    w.ownsRow base e size (.slice (some ⟨g, 0, none⟩) n n) n cur.toList :=
  ⟨by simpa using hs, .inr ⟨g, n, cur, rfl, hg, h, Nat.le_refl _, hm, hs, by rw [List.take_of_length_le (by simp [hs])]⟩⟩
theorem own_alloc {w : World} {base n size : Nat} {e : TypeId} {v : Value} {xs : List Value} (h : w.ownsRow base e size v n xs) {o : Obj} : (w.alloc o).ownsRow base e size v n xs := World.ownsRow.alloc h o
theorem own_set {w : World} {base n size : Nat} {e : TypeId} {v : Value} {xs : List Value} {p : Addr} (h : w.ownsRow base e size v n xs) (hp : some p.block ≠ v.ownBlock) (u : Value) : (w.setCell p u).ownsRow base e size v n xs := by
  refine ⟨h.1, ?_⟩
  rcases h.2 with h2 | ⟨g, cap, cur, hv, hg, hh, r⟩
  · exact .inl h2
  · refine .inr ⟨g, cap, cur, hv, hg, (Below.heap_setCell _ _ _ _ ?_).trans hh, r⟩
    rintro rfl
    exact hp (by rw [hv]; rfl)
theorem rdc_nil (w : World) : RdC w w.heap.size (.slice none 0 0) [] := (OwC.nil w 0).rd
theorem rds_nil (w : World) : RdS w w.heap.size (.slice none 0 0) [] := (OwP.nil w 0).rd
theorem rdc_blk {w : World} {g n : Nat} {cs : List Cm} (h : Blk w g 78 (cs.flatMap Cm.cells).toArray) (hn : n = cs.length) (h0 : ∀ c ∈ cs, 0 ≤ c.op) (hm : cs.length ≤ 900000) : RdC w w.heap.size (.slice (some ⟨g, 0, none⟩) n n) cs := by
  subst hn
  refine OwC.rd (base := 0) ⟨?_, h0⟩
  have := own_of_blk (base := 0) (n := cs.length) (size := 9) h (Nat.zero_le _) (by simpa using flat_len cm_len cs) (by unfold maxLen; omega)
  simpa using this
theorem Blk.grown {w w' : World} {g : Nat} {t : TypeId} {cs : Array Value} {row : Option Nat} (h : Blk w g t cs) (hb : w.grownBy w' row) (hg : some g ≠ row) : Blk w' g t cs := (hb.block g h.lt hg).trans h
theorem Blk.ne_own {w : World} {g base n size : Nat} {t e : TypeId} {cs : Array Value} {v : Value} {xs : List Value} (h : Blk w g t cs) (ho : w.ownsRow base e size v n xs) (hne : t ≠ e) : some g ≠ v.ownBlock := by
  rcases ho.2 with ⟨rfl, -⟩ | ⟨g2, cap, cur, rfl, -, hh, -⟩
  · simp [Value.ownBlock]
  · simp only [Value.ownBlock, ne_eq, Option.some.injEq]
    rintro rfl
    have := (show w.heap[g]? = _ from h).symm.trans hh
    simp at this
    exact hne this.2
theorem blk_news {w : World} {g : Nat} {t : TypeId} {cs : List Value} (h : Blk w g t cs.toArray) : ∀ j u, cs[j]? = some u → w.cell? ((⟨g, 0, none⟩ : Addr).add j) = some u := by
  intro j u hu
  rw [Addr.add_lit, Nat.zero_add, h.cell j]
  simpa using hu
section
variable {ops : Array Oper} {rest : List Oper} {o : Oper} {a : Act} {Q : Exit → Act → World → Prop} {w : World} {base g : Nat} {v : Value}
theorem app_sp {ps : List (Sp × Value)} {x : Sp × Value} (s y : Operand) (hgd : o.guard = none) (ho : o.op = .call { callee := .builtin .append, args := #[s, y], argTypes := #[22, 22] })
    (hs : a.eval s = v) (hy : a.eval y = .slice (some ⟨g, 0, none⟩) 1 1) (hown : OwR w base v ps) (hb : Blk w g 45 (spc x).toArray) (h1 : x.2.oneCell' = true) (hl : ps.length < 900000) (hbase : base ≤ w.heap.size)
    (h : ∀ v' w', OwR w' base v' (ps ++ [x]) → w.grownBy w' v.ownBlock → (v'.ownBlock = v.ownBlock ∨ v'.ownBlock = some w.heap.size) → wpList Tryz.prog ops Q rest (a.put o.dst v') w') : wpList Tryz.prog ops Q (o :: rest) a w := by
  obtain ⟨i0, hi, hz0, hz1, hz2⟩ := info_parts step_info
  refine wpList_append_own_at w hgd s y 22 ho base 45 i0 _ 6 64 Tryz.underlying22 hi hz0 hz1 hz2 rfl (by decide) v ps.length _ hs hown ⟨g, 0, none⟩ 1 1 (spc x) hy rfl
    (blk_news hb) (by intro u hu; simp [spc] at hu; rcases hu with rfl | rfl | rfl | rfl | rfl | rfl <;> first | rfl | exact h1) (by unfold maxLen; omega) (by omega) hbase ?_
  intro v' w' hw hg _ hat
  exact h v' w' (by simpa [OwR] using hw) hg hat
theorem app_cm {cs : List Cm} {x : Cm} (s y : Operand) (hgd : o.guard = none) (ho : o.op = .call { callee := .builtin .append, args := #[s, y], argTypes := #[43, 43] })
    (hs : a.eval s = v) (hy : a.eval y = .slice (some ⟨g, 0, none⟩) 1 1) (hown : OwC w base v cs) (hb : Blk w g 78 x.cells.toArray) (h0 : 0 ≤ x.op) (hl : cs.length < 900000) (hbase : base ≤ w.heap.size)
    (h : ∀ v' w', OwC w' base v' (cs ++ [x]) → w.grownBy w' v.ownBlock → (v'.ownBlock = v.ownBlock ∨ v'.ownBlock = some w.heap.size) → wpList Tryz.prog ops Q rest (a.put o.dst v') w') : wpList Tryz.prog ops Q (o :: rest) a w := by
  obtain ⟨i0, hi, hz0, hz1, hz2⟩ := info_parts cmp_info
  refine wpList_append_own_at w hgd s y 43 ho base 78 i0 _ 9 72 Tryz.underlying43 hi hz0 hz1 hz2 rfl (by decide) v cs.length _ hs hown.1 ⟨g, 0, none⟩ 1 1 x.cells hy rfl
    (blk_news hb) (by intro u hu; simp [Cm.cells] at hu; rcases hu with rfl | rfl | rfl | rfl | rfl | rfl | rfl | rfl | rfl <;> rfl) (by unfold maxLen; omega) (by omega) hbase ?_
  intro v' w' hw hg _ hat
  exact h v' w' ⟨by simpa using hw, fun c hc => (List.mem_append.1 hc).elim (hown.2 c) fun hc => by rw [List.mem_singleton.1 hc]; exact h0⟩ hg hat
end
end Go.Proofs.YtmmbblfmhcegcaaGreat

namespace Go.Proofs.YtmmbblfmhcegcaaGreat
open Go.RowKit

structure St where
  step : Int
  place : Int
  strict : Bool
  guards : List Int
  ahead : Int
  last : Bool
def stC (w : World) (B : Nat) (s : St) (cs : List Value) : Prop := ∃ gv, cs = [.int .i64 s.step, .int .i64 s.place, .bool s.strict, gv, .int .i64 s.ahead, .bool s.last] ∧ RdI w B gv s.guards
abbrev RdT := RdL 6 stC
theorem RdT.below {w w' : World} {B B' : Nat} {v : Value} {xs : List St} (h : RdT w B v xs) (hb : Below B w w') (hB : B ≤ B') : RdT w' B' v xs := RdL.below' h hb hB fun _ _ ⟨g, e, h⟩ => ⟨g, e, h.below hb hB⟩
abbrev atV (sv av : Value) (win : Int) : Value := .agg #[sv, av, .int .i64 win]
def placeAt (l : List St) (i : Nat) : Int := (l[i]?.map (·.place)).getD 0
def okAt (l : List St) (i : Nat) (s : St) : Bool := decide (-1 ≤ s.ahead) && decide (s.ahead < i) && decide (0 ≤ s.step) && decide (s.step < 6) && decide (s.place = if 0 ≤ s.ahead then placeAt l s.ahead.toNat + 1 else 0)
def autoR (l : List St) : Bool := (List.range l.length).all fun i => match l[i]? with | some s => okAt l i s | none => true
def Small (l : List St) : Prop := ∀ s ∈ l, -1000000 ≤ s.place ∧ s.place ≤ 1000000
theorem autoR_no {l : List St} {i : Nat} {s : St} (hs : l[i]? = some s) (h : okAt l i s = false) : autoR l = false := by
  have hi := (List.getElem?_eq_some_iff.1 hs).1
  rw [Bool.eq_false_iff]
  intro ha
  simp only [autoR, List.all_eq_true, List.mem_range] at ha
  have := ha i hi
  rw [hs] at this
  simp only at this
  rw [h] at this
  cases this
theorem autoR_yes {l : List St} (h : ∀ i s, l[i]? = some s → okAt l i s = true) : autoR l = true := by
  simp only [autoR, List.all_eq_true, List.mem_range]
  intro i hi
  rw [List.getElem?_eq_getElem hi]
  exact h i _ (List.getElem?_eq_getElem hi)

set_option maxRecDepth 100000 in
set_option maxHeartbeats 4000000 in
theorem nright_any (l : List St) (sv av : Value) (win : Int) (w : World) (h : RdT w w.heap.size sv l) (ha : ∃ A n c, av = .slice A n c) (hsm : Small l) :
    Calls Tryz.prog 18 #[atV sv av win] w fun e w' => e = .returned (.bool (autoR l)) ∧ Below w.heap.size w w' := by
  obtain ⟨Av, nv, cv, rfl⟩ := ha
  obtain ⟨A, cap, b, off, rfl, h2, h3, h4, h5⟩ := h
  replace hsm := hide hsm
  go_enter Tryz.func18, Tryz.ntmps18
  go_wp2
  go_loopw [9] (fun i wr => ∃ k : Nat, k ≤ l.length ∧ i = .int .i64 k ∧ Hid (∀ j s, j < k → l[j]? = some s → okAt l j s = true) ∧ Below w.heap.size w wr ∧ Blk wr w.heap.size 30 #[.slice A l.length cap, .slice Av nv cv, .int .i64 win]) (fun i _ => l.length - (intOf i).toNat)
  case atStart => exact ⟨0, by omega, rfl, hide (fun j s h => by omega), (Below.refl _ _).alloc (Nat.le_refl _) _, Blk.new_ rfl _ _⟩
  case round =>
    obtain ⟨k, hk, rfl, hok, hB, hbx⟩ := hrel
    have hz := hB.size
    by_cases hlt : k < l.length
    · obtain ⟨rfl, hb⟩ := h4 (by omega)
      obtain ⟨s, hs⟩ : ∃ s, l[k]? = some s := ⟨_, List.getElem?_eq_getElem hlt⟩
      obtain ⟨vs, ⟨gv, rfl, hgv⟩, hat⟩ := h5 k s hs
      obtain ⟨Ag, cg, hge⟩ : ∃ A c, gv = .slice A s.guards.length c := by
        obtain ⟨A, c, b, off, e, -⟩ := hgv
        exact ⟨A, c, e⟩
      subst hge
      obtain ⟨c0, c1, c2, c3, c4, c5⟩ := (hat.below hB hb).c6
      have x0 := hbx.cell 0
      simp at x0
      have hbl := hbx.lt
      have hno := hide fun (h : okAt l k s = false) => autoR_no hs h
      have hgo := hide (fun (h : okAt l k s = true) => show Hid (∀ j s, j < k + 1 → l[j]? = some s → okAt l j s = true) from hide fun j t hj ht => by
        by_cases e : j = k
        · subst e
          rw [hs] at ht
          cases ht
          exact h
        · exact hok.out j t (by omega) ht)
      have hsml := hsm.out s (List.mem_of_getElem? hs)
      have hprev := hide fun (j : Nat) (hj : j < k) => show ∃ t, l[j]? = some t ∧ placeAt l j = t.place ∧ -1000000 ≤ t.place ∧ t.place ≤ 1000000 ∧ wr.cell? ⟨b, off + j * 6 + 1, none⟩ = some (.int .i64 t.place) from by
        have hj2 : j < l.length := by omega
        obtain ⟨ws, ⟨gw, rfl, -⟩, hat'⟩ := h5 j l[j] (List.getElem?_eq_getElem hj2)
        have hm := hsm.out l[j] (List.getElem_mem _)
        exact ⟨l[j], List.getElem?_eq_getElem hj2, by simp [placeAt, List.getElem?_eq_getElem hj2], hm.1, hm.2, ((hat'.below hB hb).c6).2.1⟩
      clear hat h5 h4
      obtain ⟨st, pl, sr, gs, ah, la⟩ := s
      simp only at c0 c1 c2 c3 c4 c5 hgv hsml
      have hki : (k : Int) < l.length := by omega
      have hbr : b < wr.heap.size := by omega
      have hB2 := hide hB
      clear hgv
      by_cases t1 : ah < -1
      · have hr := hide (hno.out (by simp [okAt]; intro h; omega))
        go_wp2
        go_ret
        exact ⟨ret_bool hr.out.symm, hB2.out.alloc hB2.out.size _⟩
      replace t1 : -1 ≤ ah := by omega
      by_cases t2 : (k : Int) ≤ ah
      · have hr := hide (hno.out (by simp [okAt]; intro h1 h2; omega))
        go_wp2
        go_ret
        exact ⟨ret_bool hr.out.symm, hB2.out.alloc hB2.out.size _⟩
      replace t2 : ah < (k : Int) := by omega
      by_cases t3 : st < 0
      · have hr := hide (hno.out (by simp [okAt]; intro h1 h2 h3; omega))
        go_wp2
        go_ret
        exact ⟨ret_bool hr.out.symm, hB2.out.alloc hB2.out.size _⟩
      replace t3 : 0 ≤ st := by omega
      by_cases t4 : 6 ≤ st
      · have hr := hide (hno.out (by simp [okAt]; intro h1 h2 h3 h4; omega))
        go_wp2
        go_ret
        exact ⟨ret_bool hr.out.symm, hB2.out.alloc hB2.out.size _⟩
      replace t4 : st < 6 := by omega
      by_cases t5 : 0 ≤ ah
      · obtain ⟨j, rfl⟩ : ∃ j : Nat, ah = j := ⟨ah.toNat, by omega⟩
        obtain ⟨u, hu1, hu2, hu3, hu4, hu5⟩ := hprev.out j (by omega)
        have hjl : (j : Int) < l.length := by omega
        have hok2 : okAt l k ⟨st, pl, sr, gs, (j : Int), la⟩ = decide (pl = u.place + 1) := by simp [okAt, hu2, t1, t2, t3, t4]
        rw [hok2] at hno hgo
        have hw1 : IntKind.i64.wrap (u.place + 1) = u.place + 1 := IntWalk.i64_in _ (by omega)
        clear hprev hok2 hu1 hu2
        generalize u.place = up at *
        by_cases t6 : pl = up + 1
        · have z : (pl != up + 1) = false := by simp [t6]
          have hn := hgo.out (by simp [t6])
          replace t6 := hide t6
          clear hno hgo
          go_wp2
          exact ⟨⟨k + 1, by omega, rfl, hn, hB2.out.alloc hB2.out.size _, hbx.alloc _⟩, by simp [intOf]; omega⟩
        · have z : (pl != up + 1) = true := by simp [t6]
          have hr := hide (hno.out (by simp [t6]))
          replace t6 := hide t6
          clear hno hgo
          go_wp2
          go_ret
          exact ⟨ret_bool hr.out.symm, hB2.out.alloc hB2.out.size _⟩
      · have hok2 : okAt l k ⟨st, pl, sr, gs, ah, la⟩ = decide (pl = 0) := by simp [okAt, t1, t2, t3, t4, t5]
        rw [hok2] at hno hgo
        replace t5 : ah < 0 := by omega
        clear hprev hok2
        by_cases t6 : pl = 0
        · have z : (pl != 0) = false := by simp [t6]
          have hn := hgo.out (by simp [t6])
          replace t6 := hide t6
          clear hno hgo
          go_wp2
          exact ⟨⟨k + 1, by omega, rfl, hn, hB2.out.alloc hB2.out.size _, hbx.alloc _⟩, by simp [intOf]; omega⟩
        · have z : (pl != 0) = true := by simp [t6]
          have hr := hide (hno.out (by simp [t6]))
          replace t6 := hide t6
          clear hno hgo
          go_wp2
          go_ret
          exact ⟨ret_bool hr.out.symm, hB2.out.alloc hB2.out.size _⟩
    · obtain rfl : k = l.length := by omega
      have hr : Hid (autoR l = true) := hide (autoR_yes fun i s hs => hok.out i s (List.getElem?_eq_some_iff.1 hs).1 hs)
      have x0 := hbx.cell 0
      simp at x0
      clear h4 h5
      go_wp2
      go_ret
      exact ⟨ret_bool hr.out.symm, hB⟩
end Go.Proofs.YtmmbblfmhcegcaaGreat

namespace Go.Proofs.YtmmbblfmhcegcaaGreat

/-- Rising. -/
def Rise (l : List Int) : Prop := l.Pairwise (· < ·)
theorem mem_ins {n x : Int} {l : List Int} : x ∈ ins n l ↔ x = n ∨ x ∈ l := by
  induction l with
  | nil => simp [ins]
  | cons y l ih =>
    simp only [ins]
    split
    · rename_i h; subst h; simp
    · split
      · simp
      · simp only [List.mem_cons, ih]
        constructor <;> rintro (h | h | h) <;> simp [h]
theorem rise_ins {n : Int} {l : List Int} (h : Rise l) : Rise (ins n l) := by
  induction l with
  | nil => simp [ins, Rise]
  | cons y l ih =>
    obtain ⟨h1, h2⟩ := List.pairwise_cons.1 h
    simp only [ins]
    split
    · exact h
    · rename_i hne
      split
      · rename_i hlt
        exact List.pairwise_cons.2 ⟨fun z hz => by rcases List.mem_cons.1 hz with rfl | hz; exact hlt; have := h1 z hz; omega, h⟩
      · rename_i hge
        refine List.pairwise_cons.2 ⟨fun z hz => ?_, ih h2⟩
        rcases mem_ins.1 hz with rfl | hz
        · omega
        · exact h1 z hz
theorem fold_ins (l : List Int) (a : List Int) (h : Rise a) : Rise (l.foldl (fun l n => ins n l) a) ∧ ∀ x, x ∈ l.foldl (fun l n => ins n l) a ↔ x ∈ a ∨ x ∈ l := by
  induction l generalizing a with
  | nil => simp [h]
  | cons y l ih =>
    obtain ⟨h1, h2⟩ := ih (ins y a) (rise_ins h)
    refine ⟨h1, fun x => ?_⟩
    simp only [List.foldl_cons, h2, mem_ins, List.mem_cons]
    constructor
    · rintro ((rfl | h) | h)
      · exact .inr (.inl rfl)
      · exact .inl h
      · exact .inr (.inr h)
    · rintro (h | rfl | h)
      · exact .inl (.inr h)
      · exact .inl (.inl rfl)
      · exact .inr h
theorem asked_rise (cs : List Cm) : Rise (asked cs) := (fold_ins _ [] List.Pairwise.nil).1
theorem mem_asked {cs : List Cm} {x : Int} : x ∈ asked cs ↔ x ∈ allNames cs := by
  have := (fold_ins (allNames cs) [] List.Pairwise.nil).2 x
  simpa [asked] using this
/-- Two rising rows of the same numbers are one. -/
theorem rise_ext {l m : List Int} (hl : Rise l) (hm : Rise m) (h : ∀ x, x ∈ l ↔ x ∈ m) : l = m := by
  induction l generalizing m with
  | nil =>
    cases m with
    | nil => rfl
    | cons y m => have := (h y).2 (by simp); simp at this
  | cons x l ih =>
    cases m with
    | nil => have := (h x).1 (by simp); simp at this
    | cons y m =>
      obtain ⟨h1, h2⟩ := List.pairwise_cons.1 hl
      obtain ⟨h3, h4⟩ := List.pairwise_cons.1 hm
      have hxy : x = y := by
        rcases List.mem_cons.1 ((h x).1 (by simp)) with e | e
        · exact e
        · rcases List.mem_cons.1 ((h y).2 (by simp)) with e' | e'
          · exact e'.symm
          · have := h1 y e'; have := h3 x e; omega
      subst hxy
      rw [ih h2 h4 (fun z => ?_)]
      constructor
      · intro hz
        rcases List.mem_cons.1 ((h z).1 (by simp [hz])) with e | e
        · have := h1 z hz; omega
        · exact e
      · intro hz
        rcases List.mem_cons.1 ((h z).2 (by simp [hz])) with e | e
        · have := h3 z hz; omega
        · exact e
open Go.Lib in
theorem compactUpTo_mem (d : Array Int) (m : Nat) (hm : m ≤ d.size) : ∀ x, x ∈ compactUpTo d m ↔ ∃ j, j < m ∧ d[j]! = x := by
  induction m with
  | zero => intro x; simp [compactUpTo]
  | succ m ih =>
    intro x
    rw [compactUpTo_succ, List.mem_append, ih (by omega)]
    constructor
    · rintro (⟨j, hj, h⟩ | h)
      · exact ⟨j, by omega, h⟩
      · split at h
        · exact ⟨m, by omega, by simpa using (List.mem_singleton.1 h).symm⟩
        · simp at h
    · rintro ⟨j, hj, h⟩
      rcases Nat.lt_or_ge j m with hlt | hge
      · exact .inl ⟨j, hlt, h⟩
      · obtain rfl : j = m := by omega
        by_cases hk : keeps d j = true
        · right; rw [if_pos hk]; simp [h]
        · left
          have hj0 : j ≠ 0 := by rintro rfl; exact hk (by simp [keeps])
          refine ⟨j - 1, by omega, ?_⟩
          have : d[j]! = d[j - 1]! := by
            simp [keeps] at hk
            exact hk.2
          rw [← this, h]
open Go.Lib in
theorem compactUpTo_rise (d : Array Int) (hs : ∀ i j, i ≤ j → j < d.size → d[i]! ≤ d[j]!) (m : Nat) (hm : m ≤ d.size) : Rise (compactUpTo d m) := by
  induction m with
  | zero => simp [compactUpTo, Rise]
  | succ m ih =>
    rw [compactUpTo_succ]
    by_cases hk : keeps d m = true
    · rw [if_pos hk]
      refine List.pairwise_append.2 ⟨ih (by omega), by simp, fun a ha b hb => ?_⟩
      obtain rfl := List.mem_singleton.1 hb
      obtain ⟨j, hj, rfl⟩ := (compactUpTo_mem d m (by omega) a).1 ha
      have h1 := hs j (m - 1) (by omega) (by omega)
      have h2 := hs (m - 1) m (by omega) (by omega)
      have h3 : d[m]! ≠ d[m - 1]! := by
        simp [keeps] at hk
        rcases hk with rfl | hk
        · omega
        · exact hk
      omega
    · rw [if_neg hk, List.append_nil]
      exact ih (by omega)
open Go.Lib in
/-- Sorted, and cut to one of each. -/
theorem compact_sorted (l : List Int) (a : List Int) (ha : Rise a) (h : ∀ x, x ∈ a ↔ x ∈ l) : compact (l.mergeSort fun x y => decide (x ≤ y)) = a := by
  have hp : (l.mergeSort fun x y => decide (x ≤ y)).Pairwise fun x y => (decide (x ≤ y)) = true :=
    List.pairwise_mergeSort (fun a b c h1 h2 => by simp at *; omega) (fun a b => by simp; omega) l
  generalize hz : (l.mergeSort fun x y => decide (x ≤ y)) = zs at *
  have hmem : ∀ x, x ∈ zs ↔ x ∈ l := fun x => by rw [← hz]; exact List.mem_mergeSort
  have hget : ∀ i, i < zs.length → zs.toArray[i]! = zs.getD i 0 := fun i hi => by simp [hi]
  refine rise_ext (compactUpTo_rise _ ?_ _ (by simp)) ha (fun x => ?_)
  · intro i j hij hj
    have hj' : j < zs.length := by simpa using hj
    rw [hget i (by omega), hget j hj']
    rcases Nat.lt_or_ge i j with hlt | hge
    · have := List.pairwise_iff_getElem.1 hp i j (by omega) hj' hlt
      simpa [List.getD, List.getElem?_eq_getElem, hj', show i < zs.length by omega] using this
    · obtain rfl : i = j := by omega
      exact Int.le_refl _
  · rw [compact, compactUpTo_mem _ _ (by simp), h, ← hmem]
    constructor
    · rintro ⟨j, hj, rfl⟩
      rw [hget j hj]
      simp [List.getD, hj]
    · intro hx
      obtain ⟨j, hj, rfl⟩ := List.mem_iff_getElem.1 hx
      exact ⟨j, hj, by rw [hget j hj]; simp [List.getD, hj]⟩
open Go.Lib in
theorem asked_eq (cs : List Cm) : compact ((allNames cs).mergeSort fun x y => decide (x ≤ y)) = asked cs := compact_sorted _ _ (asked_rise cs) (fun _ => mem_asked)
end Go.Proofs.YtmmbblfmhcegcaaGreat

namespace Go.Proofs.YtmmbblfmhcegcaaGreat
open Go.RowKit Go.Sort Go.Lib

theorem sort_own {w : World} {base : Nat} {v : Value} {l : List Int} (h : OwI w base v l) (hl : l.length < 1000000) :
    Calls Tryz.prog 82 #[v] w fun e w' => e = .returned (.tuple #[]) ∧ OwI w' base v (l.mergeSort fun x y => decide (x ≤ y)) ∧ w.grownBy w' v.ownBlock := by
  rcases h.2 with ⟨h2, h3⟩ | ⟨g, cap, cur, hv, hg, hh, hn, hm, hs, ht⟩
  · obtain rfl := List.eq_nil_of_length_eq_zero h3
    subst h2
    refine (Tryz.slices_Sort_int_none none 0 w).mono ?_
    rintro e w' ⟨rfl, rfl⟩
    exact ⟨rfl, by simpa using OwI.nil _ _, World.grownBy.refl _ _⟩
  · subst hv
    have hH := holds_of_blockI (ss := l) hh (by simpa using ht)
    refine (Tryz.slices_Sort_int g 0 cap l w hH (Array.getElem?_eq_some_iff.1 hh).1 (by omega)).mono ?_
    rintro e w' ⟨rfl, n, os, rfl⟩
    refine ⟨rfl, ?_, grownBy_sortedI _⟩
    have := ownsRow_sortedI (n := n) (os := os) (ts := l.mergeSort fun x y => decide (x ≤ y)) (ss := l) (by simp) hg hh hn hm hs
    simpa [OwI] using this

theorem grow_nil (w : World) : grow w #[] = w := by
  cases w
  simp [grow]
theorem compact_len (zs : List Int) : (compact zs).length ≤ zs.length := by
  have : ∀ m, (compactUpTo zs.toArray m).length ≤ m := by
    intro m
    induction m with
    | zero => simp [compactUpTo]
    | succ m ih => rw [compactUpTo_succ, List.length_append]; split <;> simp <;> omega
  exact this _

theorem compact_own {w : World} {base : Nat} {v : Value} {l : List Int} (h : OwI w base v l) (hl : l.length < 1000000) :
    Calls Tryz.prog 83 #[v] w fun e w' => (∃ v', e = .returned v' ∧ OwI w' base v' (compact l)) ∧ w.grownBy w' v.ownBlock := by
  rcases h.2 with ⟨h2, h3⟩ | ⟨g, cap, cur, hv, hg, hh, hn, hm, hs, ht⟩
  · obtain rfl := List.eq_nil_of_length_eq_zero h3
    subst h2
    refine (Tryz.slices_Compact_int_empty none 0 w).mono ?_
    rintro e w' ⟨rfl, rfl⟩
    exact ⟨⟨_, rfl, OwI.nil _ _⟩, World.grownBy.refl _ _⟩
  · subst hv
    have hH := holds_of_blockI (ss := l) hh (by simpa using ht)
    have hcl := compact_len l
    refine (Tryz.slices_Compact_int g 0 cap l w hH (by omega) hn).mono ?_
    rintro e w' ⟨rfl, q, rfl⟩
    have e1 : putRow (Value.int .i64) (Sort.ahead w q) g 0 (compact l ++ List.replicate (l.length - (compact l).length) 0).toArray =
        grow (putRow (Value.int .i64) (Sort.ahead w q) g 0 (compact l ++ List.replicate (l.length - (compact l).length) 0).toArray) #[] := (grow_nil _).symm
    rw [e1]
    refine ⟨⟨_, rfl, ?_⟩, grownBy_sortedI _⟩
    have hb := heap_sortedI (n := q) (os := #[]) (compact l ++ List.replicate (l.length - (compact l).length) 0).toArray hh
    refine ⟨by simp, .inr ⟨g, cap, _, rfl, hg, hb, by omega, hm, by simp [putCells, hs], ?_⟩⟩
    have ht2 := take_putCellsI cur (compact l ++ List.replicate (l.length - (compact l).length) 0) (by simp only [List.length_append, List.length_replicate]; omega)
    have hlen : (compact l ++ List.replicate (l.length - (compact l).length) 0).length = l.length := by simp only [List.length_append, List.length_replicate]; omega
    rw [hlen] at ht2
    have h4 := congrArg (List.take (compact l).length) ht2
    rw [List.take_take, Nat.min_eq_left hcl, ← List.map_take, List.take_left] at h4
    simpa using h4
end Go.Proofs.YtmmbblfmhcegcaaGreat
