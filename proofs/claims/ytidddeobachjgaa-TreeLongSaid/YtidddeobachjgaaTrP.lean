/- Clones of slices of steps: the walk. -/
import Derived.Test.YtidddeobachjgaaTrK
import Derived.Test.YtidddeobachjgaaLibS
namespace Go.Proofs.Ytidddeobachjgaa
open Go.RowKit

/-- The steps of a slice that reads, and where their comparisons lie. -/
theorem RdS.pairs {w : World} {B : Nat} {v : Value} {p : List Sp} (h : RdS w B v p) : ∃ ps : List (Sp × Value), ps.map (·.1) = p ∧ (∀ x ∈ ps, RdC w B x.2 x.1.cmps) ∧
    ∃ (A : Option Addr) (cap b off : Nat), v = .slice A ps.length cap ∧ ps.length ≤ cap ∧ cap ≤ 9223372036854775807 ∧ (0 < ps.length → A = some ⟨b, off, none⟩ ∧ b < B) ∧ ∀ i x, ps[i]? = some x → At w b (off + i * 6) (spc x) := by
  obtain ⟨A, cap, b, off, h1, h2, h3, h4, h5⟩ := h
  have each : ∀ i : Nat, ∃ cv : Value, ∀ s, p[i]? = some s → RdC w B cv s.cmps ∧ At w b (off + i * 6) (spc (s, cv)) := by
    intro i
    cases hi : p[i]? with
    | none => exact ⟨undef, fun s hs => by cases hs⟩
    | some s =>
      obtain ⟨cs, ⟨cv, rfl, hr⟩, hat⟩ := h5 i s hi
      exact ⟨cv, fun s' hs' => by cases hs'; exact ⟨hr, hat⟩⟩
  obtain ⟨f, hf⟩ := Classical.axiomOfChoice each
  have hl : (p.mapIdx fun i s => (s, f i)).length = p.length := by simp
  have hg : ∀ i x, (p.mapIdx fun i s => (s, f i))[i]? = some x → ∃ s, p[i]? = some s ∧ x = (s, f i) := by
    intro i x hx
    rw [List.getElem?_mapIdx, Option.map_eq_some_iff] at hx
    obtain ⟨s, hs, rfl⟩ := hx
    exact ⟨s, hs, rfl⟩
  refine ⟨p.mapIdx fun i s => (s, f i), ?_, ?_, A, cap, b, off, by rw [hl]; exact h1, by rw [hl]; exact h2, h3, by rw [hl]; exact h4, ?_⟩
  · apply List.ext_getElem?
    intro i
    rw [List.getElem?_map, List.getElem?_mapIdx]
    cases p[i]? <;> rfl
  · intro x hx
    obtain ⟨i, hi, rfl⟩ := List.mem_iff_getElem.1 hx
    obtain ⟨s, hs, e⟩ := hg i _ (List.getElem?_eq_getElem hi)
    rw [e]
    exact (hf i s hs).1
  · intro i x hx
    obtain ⟨s, hs, rfl⟩ := hg i x hx
    exact (hf i s hs).2
theorem RdC.one {w : World} {B : Nat} {v : Value} {cs : List Cm} (h : RdC w B v cs) : v.oneCell' = true := by
  obtain ⟨A, cap, b, off, rfl, -⟩ := h
  rfl
theorem news_step {w : World} {ps : List (Sp × Value)} {b off : Nat} (h : ∀ i x, ps[i]? = some x → At w b (off + i * 6) (spc x)) :
    ∀ j u, (ps.flatMap spc)[j]? = some u → w.cell? ((⟨b, off, none⟩ : Addr).add j) = some u := by
  intro j u hu
  have hlt := (List.getElem?_eq_some_iff.1 hu).1
  rw [flat_len sp_len] at hlt
  have hi : j / 6 < ps.length := by omega
  have hat := h (j / 6) ps[j / 6] (List.getElem?_eq_getElem hi)
  have hj : j = j / 6 * 6 + j % 6 := by omega
  rw [hj, flat_get sp_len (List.getElem?_eq_getElem hi) (Nat.mod_lt _ (by omega))] at hu
  have := hat (j % 6) u hu
  rw [Addr.add_lit]
  rw [show off + j = off + j / 6 * 6 + j % 6 by omega]
  exact this

set_option maxRecDepth 100000 in
theorem clone_step (p : List Sp) (v : Value) (w : World) (B : Nat) (h : RdS w B v p) (hB : B ≤ w.heap.size) (hlen : p.length ≤ 900000) :
    Calls Try.prog 52 #[v] w fun e w' => (∃ v' ps, e = .returned v' ∧ OwR w' w.heap.size v' ps ∧ ps.map (·.1) = p ∧ ∀ x ∈ ps, RdC w B x.2 x.1.cmps) ∧ Below w.heap.size w w' := by
  obtain ⟨ps, hps, hrd, A, cap, b, off, rfl, h2, h3, h4, h5⟩ := h.pairs
  have hpl : ps.length ≤ 900000 := by rw [← hps] at hlen; simpa using hlen
  have hone : ∀ u ∈ ps.flatMap spc, u.oneCell' = true := by
    intro u hu
    obtain ⟨x, hx, hu⟩ := List.mem_flatMap.1 hu
    simp only [spc, List.mem_cons, List.not_mem_nil, or_false] at hu
    rcases hu with rfl | rfl | rfl | rfl | rfl | rfl <;> first | rfl | exact (hrd x hx).one
  have hq : ∀ (w : World) (a : Option Addr) (n c n' c' : Nat), (binOp .eql 22 (.slice a n c) (.slice none n' c')).run Try.prog w = .ok (.bool a.isNone) w := fun w a n c n' c' => Lib.run_eql_slice_nil w _ _ a n c n' c' Try.underlying22
  obtain ⟨i0, hi, hz0, hz1, hz2⟩ := info_parts step_info
  have hps := hide hps
  have hrd := hide hrd
  cases A with
  | none =>
    have hn : ps = [] := by
      rcases Nat.eq_zero_or_pos ps.length with h0 | h0
      · exact List.eq_nil_of_length_eq_zero h0
      · exact absurd (h4 h0).1 (by simp)
    subst hn
    clear h4 h5 hi hz0 hz1 hz2
    go_enter Try.func52, Try.ntmps52
    go_wp2
    go_ret
    exact ⟨⟨_, [], rfl, World.ownsRow_nil _ _ _ _, hps.out, by simp⟩, Below.refl _ _⟩
  | some ad =>
    have hnews : ∀ j u, (ps.flatMap spc)[j]? = some u → w.cell? (ad.add j) = some u := by
      intro j u hu
      have h0 : 0 < ps.length := by
        have := (List.getElem?_eq_some_iff.1 hu).1
        rw [flat_len sp_len] at this
        omega
      obtain ⟨e, -⟩ := h4 h0
      obtain rfl := Option.some.inj e
      exact news_step h5 j u hu
    have hlt : 0 < ps.length → ad.block < w.heap.size := fun h0 => by
      obtain ⟨e, hb⟩ := h4 h0
      obtain rfl := Option.some.inj e
      exact Nat.lt_of_lt_of_le hb hB
    have hN := hide hnews
    have hL := hide hlt
    have hO := hide hone
    clear h4 h5 hnews hlt hone
    go_enter Try.func52, Try.ntmps52
    go_wp2_with (at_builtin; refine wpList_append_own_at _ rfl _ _ 22 rfl w.heap.size 30 i0 _ 6 64 Try.underlying22 hi hz0 hz1 hz2 rfl (by decide) _ 0 [] rfl (World.ownsRow_made w #[] 0 (Nat.le_refl _) (Nat.zero_le _) rfl) ad ps.length cap (ps.flatMap spc) rfl ?qc1 ?qc2 ?qc3 ?qc4 ?qc5 ?qc6 ?_)
    case qc1 => exact flat_len sp_len ps
    case qc2 =>
      intro j u hu
      have h0 : 0 < ps.length := by
        have := (List.getElem?_eq_some_iff.1 hu).1
        rw [flat_len sp_len] at this
        omega
      have := hN.out j u hu
      refine (World.cell?_alloc_lt w _ _ ?_).trans this
      have hb := hL.out h0
      unfold Addr.add
      split <;> simpa using hb
    case qc3 => exact hO.out
    case qc4 => unfold maxLen; omega
    case qc5 => omega
    case qc6 => simp
    intro v' w1 hown1 hg1 _ hat
    go_wp2
    go_ret
    exact ⟨⟨_, ps, rfl, by simpa [OwR] using hown1, hps.out, hrd.out⟩, ((Below.refl _ _).alloc (Nat.le_refl _) _).grown hg1 (by simp) (fun k hk => by simp [Value.ownBlock] at hk; omega)⟩
end Go.Proofs.Ytidddeobachjgaa
