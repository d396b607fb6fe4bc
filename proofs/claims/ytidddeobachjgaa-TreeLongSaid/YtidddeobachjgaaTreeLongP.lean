/- THE LAW TreeLong: for whatever input the call returns true and leaves its arguments as they were. No conditions. -/
import Derived.Test.YtidddeobachjgaaLwLong
import Derived.Test.YtidddeobachjgaaLibRp
namespace Go.Proofs.Ytidddeobachjgaa
open Go.ChangeShapes Go.WideShapes Go.ChangeAt Go.RowKit

set_option maxRecDepth 100000 in
theorem treeLong_lifted (os : Os) (started : os.Started) (H : Type) (enc : TypeId × Value → H) :
    ReturnsInHanded {} Try.checked os 5 .any (Rows.treeLongSpec.pre6 enc Try.prog Try.f5 Rows.treeLongRow.domain false) (Rows.treeLongSpec.post enc Try.prog Try.f5 false true false false) := by
  refine returnsInHanded_of_change_sized (C := Try.checked) Try.own_ started (by kernel_rfl) Try.func5
    (ChangeSpec.witness6 (enc := enc) (C := Try.checked) false ⟨#[], #[.agg #[.slice none 0 0, .int .i64 0], .agg #[.bool false, .int .i64 0, .int .i64 0, .int .i64 0, .bool false, .slice none 0 0]], []⟩ 8 (by kernel_rfl) (by kernel_rfl) (by kernel_rfl) (by kernel_rfl)) ?_
  intro W base args ds gs before hval0 hW _ hsz _
  have hval : ∀ (j : Nat) t v, Try.f5.params[j]? = some t → args[j]? = some v → Value.okWide Try.prog W .any base t v := hval0
  refine law_post (tb := 4) rfl rfl Try.underlying4 Try.laidOut_ (by kernel_rfl) ?_ hW ?_
  · intro ds hl
    match ds, hl with
    | [e0, e1], _ => exact ⟨rfl, rfl, rfl⟩
  obtain ⟨p, q, hA0, hV, rfl, hfz, hnd⟩ := hW
  have hA : DataW.TrodAll enc Try.prog W 0 (fun _ => true) true Try.f5.params.toList args.toList ds p := hA0
  rw [Try.params5] at hA hval
  obtain ⟨v0, vs0, d0, ds0, p0, q0, hargs, rfl, rfl, h0, r0⟩ := trodAll_cons hA
  obtain ⟨v1, vs1, d1, ds1, p1, q1, rfl, rfl, rfl, h1, r1⟩ := trodAll_cons r0
  obtain ⟨rfl, rfl, rfl⟩ := trodAll_nil r1
  obtain rfl : args = #[v0, v1] := by cases args; simp_all
  obtain ⟨sv0, win0, xs0, rfl, hr0, iw0⟩ := rd_pat (hval 0 24 v0 rfl rfl) h0
  obtain ⟨s1, cv1, rfl, hr1, imn1, imx1⟩ := rd_step (hval 1 30 v1 rfl rfl) h1
  exact treeLong_walk xs0 s1 win0 sv0 cv1 W hr0 hr1

theorem treeLong_holds : Rows.TreeLongSaid :=
  OpenClaim.holds_of_wide 5 Try.f5 rfl rfl rfl rfl rfl rfl rfl ⟨rfl, rfl, rfl, rfl, rfl⟩ rfl rfl rfl rfl rfl (by kernel_rfl) Try.func5 (by kernel_rfl)
    (of_decide_eq_true (by kernel_rfl)) (by unfold Func.isWrapper; rw [if_neg (of_decide_eq_false (by kernel_rfl))]; exact ⟨rfl, rfl⟩)
    (fun os started H enc _ => treeLong_lifted os started H enc)
#print axioms treeLong_holds
end Go.Proofs.Ytidddeobachjgaa
