/- THE LAW NfaGuards: for whatever input the call returns true and leaves its arguments as they were. No conditions. -/
import Derived.Test.YtmmbblfmhcegcaaGreatLwNg
import Derived.Test.YtmmbblfmhcegcaaGreatM28
namespace Go.Proofs.YtmmbblfmhcegcaaGreat
open Go.ChangeShapes Go.WideShapes Go.ChangeAt Go.RowKit

set_option maxRecDepth 100000 in
theorem nfaGuards_lifted (os : Os) (started : os.Started) (H : Type) (enc : TypeId × Value → H) :
    ReturnsInHanded {} Tryz.checked os 4 .any (Rows.nfaGuardsSpec.pre6 enc Tryz.prog Tryz.f4 Rows.nfaGuardsRow.domain false) (Rows.nfaGuardsSpec.post enc Tryz.prog Tryz.f4 false true false false) := by
  refine returnsInHanded_of_change_sized (C := Tryz.checked) Tryz.own_ started (by kernel_rfl) Tryz.func4
    (ChangeSpec.witness6 (enc := enc) (C := Tryz.checked) false ⟨#[], #[.agg #[.slice none 0 0, .int .i64 0]], []⟩ 8 (by kernel_rfl) (by kernel_rfl) (by kernel_rfl) (by kernel_rfl)) ?_
  intro W base args ds gs before hval0 hW _ hsz _
  have hval : ∀ (j : Nat) t v, Tryz.f4.params[j]? = some t → args[j]? = some v → Value.okWide Tryz.prog W .any base t v := hval0
  refine law_post (tb := 4) rfl rfl Tryz.underlying4 Tryz.laidOut_ (by kernel_rfl) ?_ hW ?_
  · intro ds hl
    match ds, hl with
    | [e0], _ => exact ⟨rfl, rfl, rfl⟩
  obtain ⟨p, q, hA0, hV, rfl, hfz, hnd⟩ := hW
  have hA : DataW.TrodAll enc Tryz.prog W 0 (fun _ => true) true Tryz.f4.params.toList args.toList ds p := hA0
  rw [Tryz.params4] at hA hval
  obtain ⟨v0, vs0, d0, ds0, p0, q0, hargs, rfl, rfl, h0, r0⟩ := trodAll_cons hA
  obtain ⟨rfl, rfl, rfl⟩ := trodAll_nil r0
  obtain rfl : args = #[v0] := by cases args; simp_all
  obtain ⟨sv0, win0, xs0, rfl, hr0, iw0⟩ := rd_pat (hval 0 24 v0 rfl rfl) h0
  exact nfaGuards_walk xs0 win0 sv0 W hr0

theorem nfaGuards_holds : Rows.NfaGuardsSaid :=
  OpenClaim.holds_of_wide 4 Tryz.f4 rfl rfl rfl rfl rfl rfl rfl ⟨rfl, rfl, rfl, rfl, rfl⟩ rfl rfl rfl rfl rfl (by kernel_rfl) Tryz.func4 (by kernel_rfl)
    (of_decide_eq_true (by kernel_rfl)) (by unfold Func.isWrapper; rw [if_neg (of_decide_eq_false (by kernel_rfl))]; exact ⟨rfl, rfl⟩)
    (fun os started H enc _ => nfaGuards_lifted os started H enc)
#print axioms nfaGuards_holds
end Go.Proofs.YtmmbblfmhcegcaaGreat
