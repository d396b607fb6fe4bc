/- THE LAW TreeOwn: for whatever input the call returns true and leaves its arguments as they were. No conditions. -/
import Derived.Test.YtidddeobachjgaaLwOwn
import Derived.Test.YtidddeobachjgaaLibRp
namespace Go.Proofs.Ytidddeobachjgaa
open Go.ChangeShapes Go.WideShapes Go.ChangeAt Go.RowKit

set_option maxRecDepth 100000 in
theorem treeOwn_lifted (os : Os) (started : os.Started) (H : Type) (enc : TypeId × Value → H) :
    ReturnsInHanded {} Try.checked os 6 .any (Rows.treeOwnSpec.pre6 enc Try.prog Try.f6 Rows.treeOwnRow.domain false) (Rows.treeOwnSpec.post enc Try.prog Try.f6 false true false false) := by
  refine returnsInHanded_of_change_sized (C := Try.checked) Try.own_ started (by kernel_rfl) Try.func6
    (ChangeSpec.witness6 (enc := enc) (C := Try.checked) false ⟨#[], #[.agg #[.slice none 0 0, .int .i64 0], .agg #[.slice none 0 0, .int .i64 0]], []⟩ 8 (by kernel_rfl) (by kernel_rfl) (by kernel_rfl) (by kernel_rfl)) ?_
  intro W base args ds gs before hval0 hW _ hsz _
  have hval : ∀ (j : Nat) t v, Try.f6.params[j]? = some t → args[j]? = some v → Value.okWide Try.prog W .any base t v := hval0
  refine law_post (tb := 4) rfl rfl Try.underlying4 Try.laidOut_ (by kernel_rfl) ?_ hW ?_
  · intro ds hl
    match ds, hl with
    | [e0, e1], _ => exact ⟨rfl, rfl, rfl⟩
  obtain ⟨p, q, hA0, hV, rfl, hfz, hnd⟩ := hW
  have hA : DataW.TrodAll enc Try.prog W 0 (fun _ => true) true Try.f6.params.toList args.toList ds p := hA0
  rw [Try.params6] at hA hval
  obtain ⟨v0, vs0, d0, ds0, p0, q0, hargs, rfl, rfl, h0, r0⟩ := trodAll_cons hA
  obtain ⟨v1, vs1, d1, ds1, p1, q1, rfl, rfl, rfl, h1, r1⟩ := trodAll_cons r0
  obtain ⟨rfl, rfl, rfl⟩ := trodAll_nil r1
  obtain rfl : args = #[v0, v1] := by cases args; simp_all
  obtain ⟨sv0, win0, xs0, rfl, hr0, iw0⟩ := rd_pat (hval 0 24 v0 rfl rfl) h0
  obtain ⟨sv1, win1, xs1, rfl, hr1, iw1⟩ := rd_pat (hval 1 24 v1 rfl rfl) h1
  exact treeOwn_walk xs0 xs1 win0 win1 sv0 sv1 W hr0 hr1

theorem treeOwn_holds : Rows.TreeOwnSaid :=
  OpenClaim.holds_of_wide 6 Try.f6 rfl rfl rfl rfl rfl rfl rfl ⟨rfl, rfl, rfl, rfl, rfl⟩ rfl rfl rfl rfl rfl (by kernel_rfl) Try.func6 (by kernel_rfl)
    (of_decide_eq_true (by kernel_rfl)) (by unfold Func.isWrapper; rw [if_neg (of_decide_eq_false (by kernel_rfl))]; exact ⟨rfl, rfl⟩)
    (fun os started H enc _ => treeOwn_lifted os started H enc)
#print axioms treeOwn_holds
end Go.Proofs.Ytidddeobachjgaa
