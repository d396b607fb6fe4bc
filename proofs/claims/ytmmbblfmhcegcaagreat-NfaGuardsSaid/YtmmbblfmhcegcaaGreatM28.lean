/- Several texts of one proof: How the arguments of these laws read: ints, steps, patterns. -/
import Derived.Test.YtmmbblfmhcegcaaGreatM27
import Derived.Test.YtmmbblfmhcegcaaGreatM01
import Derived.Deep.Slices
import Derived.ChangeArms

namespace Go.Proofs.YtmmbblfmhcegcaaGreat
open Go.ChangeShapes Go.WideShapes Go.ChangeAt Go.RowKit Go.Joins Go.Deep

theorem Tryz.own_ : ownKnob Tryz.prog.godebug = none := by kernel_rfl
theorem Tryz.laidOut_ : laidOutB Tryz.prog = true := by kernel_rfl

def In64 (x : Int) : Prop := -9223372036854775808 ≤ x ∧ x ≤ 9223372036854775807
theorem in64_of_wf {x : Int} (h : (Lit.int .i64 x).wf = true) : In64 x := by
  simp [Lit.wf, IntKind.min, IntKind.max, IntKind.signed, IntKind.bits] at h
  exact ⟨by omega, by omega⟩
theorem u8_of_wf {x : Int} (h : (Lit.int .u8 x).wf = true) : 0 ≤ x := by
  simp [Lit.wf, IntKind.min, IntKind.max, IntKind.signed, IntKind.bits] at h
  omega
instance : Inhabited Tm := ⟨⟨0, 0, 0, 0⟩⟩
instance : Inhabited Cm := ⟨⟨0, default, default⟩⟩
instance : Inhabited Sp := ⟨⟨false, 0, 0, 0, false, []⟩⟩

section
variable {α : Type} {l : List α}
theorem list2 (h : l.length = 2) : ∃ a b, l = [a, b] := by
  match l, h with
  | [a, b], _ => exact ⟨a, b, rfl⟩
theorem list3 (h : l.length = 3) : ∃ a b c, l = [a, b, c] := by
  match l, h with
  | [a, b, c], _ => exact ⟨a, b, c, rfl⟩
theorem list4 (h : l.length = 4) : ∃ a b c d, l = [a, b, c, d] := by
  match l, h with
  | [a, b, c, d], _ => exact ⟨a, b, c, d, rfl⟩
theorem list6 (h : l.length = 6) : ∃ a b c d e f, l = [a, b, c, d, e, f] := by
  match l, h with
  | [a, b, c, d, e, f], _ => exact ⟨a, b, c, d, e, f, rfl⟩
theorem list9 (h : l.length = 9) : ∃ a b c d e f g i j, l = [a, b, c, d, e, f, g, i, j] := by
  match l, h with
  | [a, b, c, d, e, f, g, i, j], _ => exact ⟨a, b, c, d, e, f, g, i, j, rfl⟩
end

section
variable {H : Type} {enc : TypeId × Value → H} {W : World} {spare : Nat → Bool} {held : Bool} {fuel : Nat} {cs : List Value} {x : DataW H × List MemPlace}
theorem rd_slice {P : Program} {α : Type} [Inhabited α] {sz : Nat} {cells : World → Nat → α → List Value → Prop} {t e : TypeId} {v : Value} (ht : P.underlying t = some (.slice e)) (hsz : P.cellsOf e = sz) (h0 : 0 < sz)
    (helem : ∀ (n : Nat) (cs : List Value) (x : DataW H × List MemPlace), DataW.trod enc P W 0 spare held n e cs = some x → ∃ a : α, cells W W.heap.size a cs)
    (h : DataW.trod enc P W 0 spare held fuel t [v] = some x) : ∃ xs : List α, RdL sz cells W W.heap.size v xs := by
  rcases open_slice ht h with ⟨e, -⟩ | ⟨a, len, cap, m, n, D, Pl, e, -, hl, hcm, hm, -, hx⟩
  · exact ⟨[], none, 0, 0, 0, List.head_eq_of_cons_eq e, Nat.le_refl _, by omega, fun h => absurd h (by simp), fun i x hx => by simp at hx⟩
  · have each : ∀ i, i < len → ∃ y : α, ∃ cs', cells W W.heap.size y cs' ∧ cs'.length = sz ∧ ∀ j, j < sz → W.cell? (a.add (i * sz + j)) = cs'[j]? := by
      intro i hi
      have him : i < m := by rw [hm]; split <;> omega
      obtain ⟨cs', h1, h2⟩ := hx i him
      rw [hsz] at h1
      obtain ⟨_, hlen, hcell⟩ := World.cells?_some h1
      obtain ⟨y, hy⟩ := helem _ _ _ h2
      refine ⟨y, cs', hy, hlen, fun j hj => ?_⟩
      have := hcell j hj
      rwa [add_add] at this
    have hspot : 0 < len → a.spot = none ∧ a.block < W.heap.size := by
      intro hp
      obtain ⟨y, cs', -, hlen, hc⟩ := each 0 hp
      have e0 := hc 0 h0
      rw [List.getElem?_eq_getElem (by omega)] at e0
      simp only [Nat.zero_mul, Nat.add_zero, Addr.add, if_true] at e0
      unfold World.cell? at e0
      split at e0
      · rename_i hh
        refine ⟨?_, (Array.getElem?_eq_some_iff.1 hh).1⟩
        cases hs : a.spot with
        | none => rfl
        | some _ => simp [hs] at e0
      · cases e0
    have fix : ∀ i, 0 < len → a.add i = ⟨a.block, a.off + i, none⟩ := by
      intro i hp
      unfold Addr.add
      split
      · rename_i h; subst h; rw [Nat.add_zero]; cases a; cases (hspot hp).1; rfl
      · rfl
    obtain ⟨f, hf⟩ := choose_lt each
    refine ⟨(List.range len).map f, some a, cap, a.block, a.off, by simpa using List.head_eq_of_cons_eq e, by simpa using hl, by unfold maxLen at hcm; exact hcm, fun hp => ?_, fun i y hy => ?_⟩
    · have hp' : 0 < len := by simpa using hp
      refine ⟨?_, (hspot hp').2⟩
      have := fix 0 hp'
      simp only [Addr.add, if_true] at this
      rw [this, Nat.add_zero]
    · have hi : i < len := by have := (List.getElem?_eq_some_iff.1 hy).1; simpa using this
      have hyf : f i = y := by simpa [hi] using hy
      obtain ⟨cs', h1, h2, h3⟩ := hf i hi
      rw [hyf] at h1
      refine ⟨cs', h1, fun j u hu => ?_⟩
      have hj : j < sz := by have := (List.getElem?_eq_some_iff.1 hu).1; omega
      have := h3 j hj
      rw [fix _ (by omega), hu] at this
      rw [Nat.add_assoc]
      exact this

theorem cells_tm : Tryz.prog.cellsOf 76 = 4 := by kernel_rfl
theorem cells_cm : Tryz.prog.cellsOf 78 = 9 := by kernel_rfl
theorem cells_sp : Tryz.prog.cellsOf 45 = 6 := by kernel_rfl
theorem cells_pt : Tryz.prog.cellsOf 24 = 2 := by kernel_rfl
theorem cells_i : Tryz.prog.cellsOf 3 = 1 := by kernel_rfl
theorem cells_u : Tryz.prog.cellsOf 5 = 1 := by kernel_rfl
theorem cells_b : Tryz.prog.cellsOf 4 = 1 := by kernel_rfl
theorem cells_sc : Tryz.prog.cellsOf 43 = 1 := by kernel_rfl
theorem cells_ss : Tryz.prog.cellsOf 22 = 1 := by kernel_rfl

theorem trod_tm (h : DataW.trod enc Tryz.prog W 0 spare held fuel 76 cs = some x) : ∃ t : Tm, cs = t.cells := by
  obtain ⟨xs, n, -, -, hl, hlen, hf⟩ := DataW.trod_struct Tryz.underlying76 h
  rw [cells_tm] at hl
  obtain ⟨c0, c1, c2, c3, rfl⟩ := list4 hl
  obtain ⟨y0, y1, y2, y3, rfl⟩ := list4 (show xs.length = 4 from hlen)
  · skip
    have g0 := hf 0 _ rfl
    have g1 := hf 1 _ rfl
    have g2 := hf 2 _ rfl
    have g3 := hf 3 _ rfl
    simp [cells_i, cells_u] at g0 g1 g2 g3
    obtain ⟨a0, e0, -, -⟩ := DataW.trod_int Tryz.underlying5 g0
    obtain ⟨a1, e1, -, -⟩ := DataW.trod_int Tryz.underlying3 g1
    obtain ⟨a2, e2, -, -⟩ := DataW.trod_int Tryz.underlying3 g2
    obtain ⟨a3, e3, -, -⟩ := DataW.trod_int Tryz.underlying3 g3
    simp only [List.cons.injEq, and_true] at e0 e1 e2 e3
    subst e0 e1 e2 e3
    exact ⟨⟨a0, a1, a2, a3⟩, rfl⟩
theorem trod_cm (h : DataW.trod enc Tryz.prog W 0 spare held fuel 78 cs = some x) : ∃ c : Cm, cmC W W.heap.size c cs := by
  obtain ⟨xs, n, -, -, hl, hlen, hf⟩ := DataW.trod_struct Tryz.underlying78 h
  rw [cells_cm] at hl
  obtain ⟨c0, c1, c2, c3, c4, c5, c6, c7, c8, rfl⟩ := list9 hl
  obtain ⟨y0, y1, y2, rfl⟩ := list3 (show xs.length = 3 from hlen)
  · skip
    have g0 := hf 0 _ rfl
    have g1 := hf 1 _ rfl
    have g2 := hf 2 _ rfl
    simp [cells_u, cells_tm] at g0 g1 g2
    obtain ⟨a0, e0, -, w0⟩ := DataW.trod_int Tryz.underlying5 g0
    obtain ⟨l, e1⟩ := trod_tm g1
    obtain ⟨r, e2⟩ := trod_tm g2
    simp only [List.cons.injEq, and_true, Tm.cells] at e0 e1 e2
    obtain ⟨rfl, rfl, rfl, rfl⟩ := e1
    obtain ⟨rfl, rfl, rfl, rfl⟩ := e2
    subst e0
    exact ⟨⟨a0, l, r⟩, rfl, u8_of_wf w0⟩
theorem trod_cs {v : Value} (h : DataW.trod enc Tryz.prog W 0 spare held fuel 43 [v] = some x) : ∃ xs, RdC W W.heap.size v xs :=
  rd_slice Tryz.underlying43 cells_cm (by omega) (fun _ _ _ h => trod_cm h) h
theorem trod_sp (h : DataW.trod enc Tryz.prog W 0 spare held fuel 45 cs = some x) : ∃ s : Sp, spC W W.heap.size s cs ∧ In64 s.kind ∧ In64 s.min ∧ In64 s.max := by
  obtain ⟨xs, n, -, -, hl, hlen, hf⟩ := DataW.trod_struct Tryz.underlying45 h
  rw [cells_sp] at hl
  obtain ⟨c0, c1, c2, c3, c4, c5, rfl⟩ := list6 hl
  obtain ⟨y0, y1, y2, y3, y4, y5, rfl⟩ := list6 (show xs.length = 6 from hlen)
  · skip
    have g0 := hf 0 _ rfl
    have g1 := hf 1 _ rfl
    have g2 := hf 2 _ rfl
    have g3 := hf 3 _ rfl
    have g4 := hf 4 _ rfl
    have g5 := hf 5 _ rfl
    simp [cells_i, cells_b, cells_sc] at g0 g1 g2 g3 g4 g5
    obtain ⟨a0, e0, -⟩ := DataW.trod_bool Tryz.underlying4 g0
    obtain ⟨a1, e1, -, w1⟩ := DataW.trod_int Tryz.underlying3 g1
    obtain ⟨a2, e2, -, w2⟩ := DataW.trod_int Tryz.underlying3 g2
    obtain ⟨a3, e3, -, w3⟩ := DataW.trod_int Tryz.underlying3 g3
    obtain ⟨a4, e4, -⟩ := DataW.trod_bool Tryz.underlying4 g4
    obtain ⟨l, hc⟩ := trod_cs g5
    simp only [List.cons.injEq, and_true] at e0 e1 e2 e3 e4
    subst e0 e1 e2 e3 e4
    exact ⟨⟨a0, a1, a2, a3, a4, l⟩, ⟨c5, rfl, hc⟩, in64_of_wf w1, in64_of_wf w2, in64_of_wf w3⟩
theorem trod_ps {v : Value} (h : DataW.trod enc Tryz.prog W 0 spare held fuel 22 [v] = some x) : ∃ xs, RdS W W.heap.size v xs :=
  rd_slice Tryz.underlying22 cells_sp (by omega) (fun _ _ _ h => (trod_sp h).imp fun _ h => h.1) h
end

section
variable {H : Type} {enc : TypeId × Value → H} {W : World} {base : Nat} {v : Value} {d : DataW H} {p : List MemPlace}
set_option maxRecDepth 100000 in
theorem rd_int (hv : Value.okWide Tryz.prog W .any base 3 v) (h : DataW.Trod enc Tryz.prog W 0 (fun _ => true) true 3 v d p) : ∃ n, v = .int .i64 n ∧ In64 n := by
  obtain ⟨n, rfl, _, _, hw⟩ := open_int Tryz.underlying3 hv h
  exact ⟨n, rfl, in64_of_wf hw⟩
set_option maxRecDepth 100000 in
theorem rd_pat (hv : Value.okWide Tryz.prog W .any base 24 v) (h : DataW.Trod enc Tryz.prog W 0 (fun _ => true) true 24 v d p) : ∃ sv win xs, v = ptV sv win ∧ RdS W W.heap.size sv xs ∧ In64 win := by
  obtain ⟨cs, rfl, hsz⟩ := okWide_struct Tryz.underlying24 hv
  rw [cells_pt] at hsz
  obtain ⟨l⟩ := cs
  obtain ⟨c0, c1, rfl⟩ := list2 (show l.length = 2 from hsz)
  · obtain ⟨fuel, hf⟩ := h
    obtain ⟨xs, n, -, -, -, hlen, hf⟩ := DataW.trod_struct Tryz.underlying24 hf
    obtain ⟨y0, y1, rfl⟩ := list2 (show xs.length = 2 from hlen)
    · skip
      have g0 := hf 0 _ rfl
      have g1 := hf 1 _ rfl
      simp [Value.cells, cells_i, cells_ss] at g0 g1
      obtain ⟨a1, e1, -, w1⟩ := DataW.trod_int Tryz.underlying3 g1
      obtain ⟨l, hc⟩ := trod_ps g0
      simp only [List.cons.injEq, and_true] at e1
      subst e1
      exact ⟨_, _, l, rfl, hc, in64_of_wf w1⟩
set_option maxRecDepth 100000 in
theorem rd_step (hv : Value.okWide Tryz.prog W .any base 45 v) (h : DataW.Trod enc Tryz.prog W 0 (fun _ => true) true 45 v d p) : ∃ s cv, v = spV s cv ∧ RdC W W.heap.size cv s.cmps ∧ In64 s.min ∧ In64 s.max := by
  obtain ⟨cs, rfl, hsz⟩ := okWide_struct Tryz.underlying45 hv
  rw [cells_sp] at hsz
  obtain ⟨l⟩ := cs
  obtain ⟨fuel, hf⟩ := h
  obtain ⟨s, ⟨cv, e, hc⟩, h1, h2, h3⟩ := trod_sp hf
  simp only [Value.cells] at e
  subst e
  exact ⟨s, cv, rfl, hc, h2, h3⟩
end
end Go.Proofs.YtmmbblfmhcegcaaGreat
