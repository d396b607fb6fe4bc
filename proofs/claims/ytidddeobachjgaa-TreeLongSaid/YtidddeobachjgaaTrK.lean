/- Clones of slices of structs: the walks. -/
import Derived.Test.YtidddeobachjgaaLibO
import Derived.Test.YtidddeobachjgaaTrB
namespace Go.Proofs.Ytidddeobachjgaa
open Go.RowKit

theorem cmp_info : (Try.prog.info? 36).map (fun i => (i.zero, i.size, i.bytes)) = some (some (.agg #[.int .u8 0, .int .u8 0, .int .i64 0, .int .i64 0, .int .i64 0, .int .u8 0, .int .i64 0, .int .i64 0, .int .i64 0]), 9, 72) := by kernel_rfl
theorem step_info : (Try.prog.info? 30).map (fun i => (i.zero, i.size, i.bytes)) = some (some (.agg #[.bool false, .int .i64 0, .int .i64 0, .int .i64 0, .bool false, .slice none 0 0]), 6, 64) := by kernel_rfl

theorem cm_one (cs : List Cm) : ∀ u ∈ cs.flatMap Cm.cells, u.oneCell' = true := by
  intro u hu
  obtain ⟨c, -, hu⟩ := List.mem_flatMap.1 hu
  simp only [Cm.cells, List.mem_cons, List.not_mem_nil, or_false] at hu
  rcases hu with rfl | rfl | rfl | rfl | rfl | rfl | rfl | rfl | rfl <;> rfl

/-- The cells of a slice that reads as comparisons. -/
theorem news_cmp {w : World} {B : Nat} {cs : List Cm} {b off : Nat} (h : ∀ i c, cs[i]? = some c → ∃ vs, cmC w B c vs ∧ At w b (off + i * 9) vs) :
    ∀ j u, (cs.flatMap Cm.cells)[j]? = some u → w.cell? ((⟨b, off, none⟩ : Addr).add j) = some u := by
  intro j u hu
  have hlt := (List.getElem?_eq_some_iff.1 hu).1
  rw [flat_len cm_len] at hlt
  have hi : j / 9 < cs.length := by omega
  obtain ⟨vs, ⟨rfl, -⟩, hat⟩ := h (j / 9) cs[j / 9] (List.getElem?_eq_getElem hi)
  have hj : j = j / 9 * 9 + j % 9 := by omega
  rw [hj, flat_get cm_len (List.getElem?_eq_getElem hi) (Nat.mod_lt _ (by omega))] at hu
  have := hat (j % 9) u hu
  rw [Addr.add_lit]
  rw [show off + j = off + j / 9 * 9 + j % 9 by omega]
  exact this

set_option maxRecDepth 100000 in
theorem clone_cmp (cs : List Cm) (v : Value) (w : World) (h : RdC w w.heap.size v cs) (hlen : cs.length ≤ 900000) :
    Calls Try.prog 53 #[v] w fun e w' => (∃ v', e = .returned v' ∧ OwC w' w.heap.size v' cs) ∧ Below w.heap.size w w' := by
  have hop : ∀ c ∈ cs, 0 ≤ c.op := by
    obtain ⟨A, cap, b, off, rfl, h2, h3, h4, h5⟩ := h
    intro c hc
    obtain ⟨i, hi, rfl⟩ := List.mem_iff_getElem.1 hc
    obtain ⟨vs, ⟨-, ho⟩, -⟩ := h5 i cs[i] (List.getElem?_eq_getElem hi)
    exact ho
  obtain ⟨A, cap, b, off, rfl, h2, h3, h4, h5⟩ := h
  have hq : ∀ (w : World) (a : Option Addr) (n c n' c' : Nat), (binOp .eql 28 (.slice a n c) (.slice none n' c')).run Try.prog w = .ok (.bool a.isNone) w := fun w a n c n' c' => Lib.run_eql_slice_nil w _ _ a n c n' c' Try.underlying28
  obtain ⟨i0, hi, hz0, hz1, hz2⟩ := info_parts cmp_info
  cases A with
  | none =>
    have hn : cs = [] := by
      rcases Nat.eq_zero_or_pos cs.length with h0 | h0
      · exact List.eq_nil_of_length_eq_zero h0
      · exact absurd (h4 h0).1 (by simp)
    subst hn
    clear h4 h5 hi hz0 hz1 hz2
    go_enter Try.func53, Try.ntmps53
    go_wp2
    go_ret
    exact ⟨⟨_, rfl, OwC.nil _ _⟩, Below.refl _ _⟩
  | some ad =>
    have hnews : ∀ j u, (cs.flatMap Cm.cells)[j]? = some u → w.cell? (ad.add j) = some u := by
      intro j u hu
      have h0 : 0 < cs.length := by
        have := (List.getElem?_eq_some_iff.1 hu).1
        rw [flat_len cm_len] at this
        omega
      obtain ⟨e, -⟩ := h4 h0
      obtain rfl := Option.some.inj e
      exact news_cmp h5 j u hu
    have hlt : 0 < cs.length → ad.block < w.heap.size := fun h0 => by
      obtain ⟨e, hb⟩ := h4 h0
      obtain rfl := Option.some.inj e
      exact hb
    have hN := hide hnews
    have hL := hide hlt
    have hO := hide hop
    clear h4 h5 hnews hlt hop
    go_enter Try.func53, Try.ntmps53
    go_wp2_with (at_builtin; refine wpList_append_own_at _ rfl _ _ 28 rfl w.heap.size 36 i0 _ 9 72 Try.underlying28 hi hz0 hz1 hz2 rfl (by decide) _ 0 [] rfl (World.ownsRow_made w #[] 0 (Nat.le_refl _) (Nat.zero_le _) rfl) ad cs.length cap (cs.flatMap Cm.cells) rfl ?qc1 ?qc2 ?qc3 ?qc4 ?qc5 ?qc6 ?_)
    case qc1 => exact flat_len cm_len cs
    case qc2 =>
      intro j u hu
      have h0 : 0 < cs.length := by
        have := (List.getElem?_eq_some_iff.1 hu).1
        rw [flat_len cm_len] at this
        omega
      have := hN.out j u hu
      refine (World.cell?_alloc_lt w _ _ ?_).trans this
      have hb := hL.out h0
      unfold Addr.add
      split <;> simpa using hb
    case qc3 => exact cm_one cs
    case qc4 => unfold maxLen; omega
    case qc5 => omega
    case qc6 => simp
    intro v' w1 hown1 hg1 _ hat
    go_wp2
    go_ret
    exact ⟨⟨_, rfl, ⟨by simpa using hown1, hO.out⟩⟩, ((Below.refl _ _).alloc (Nat.le_refl _) _).grown hg1 (by simp) (fun k hk => by simp [Value.ownBlock] at hk; omega)⟩
end Go.Proofs.Ytidddeobachjgaa
