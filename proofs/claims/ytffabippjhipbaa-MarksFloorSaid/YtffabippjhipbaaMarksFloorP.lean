/- THE LAW MarksFloor: for whatever input the call returns true and leaves its arguments as they were. No conditions. -/
import Derived.Test.YtffabippjhipbaaMarksFl
import Derived.Test.YtffabippjhipbaaLibRd
namespace Go.Proofs.Ytffabippjhipbaa
open Go.ChangeShapes Go.WideShapes Go.ChangeAt Go.RowKit

set_option maxRecDepth 100000 in
theorem marksFloor_lifted (os : Os) (started : os.Started) (H : Type) (enc : TypeId × Value → H) :
    ReturnsInHanded {} Try.checked os 7 .any (Rows.marksFloorSpec.pre6 enc Try.prog Try.f7 Rows.marksFloorRow.domain false) (Rows.marksFloorSpec.post enc Try.prog Try.f7 false true false false) := by
  refine returnsInHanded_of_change_sized (C := Try.checked) Try.own_ started (by kernel_rfl) Try.func7
    (ChangeSpec.witness6 (enc := enc) (C := Try.checked) false ⟨#[], #[mar 0 0 0 0, .int .i64 0, .int .i64 0, .int .i64 0, .int .i64 0], []⟩ 8 (by kernel_rfl) (by kernel_rfl) (by kernel_rfl) (by kernel_rfl)) ?_
  intro W base args ds gs before hval0 hW _ hsz _
  have hval : ∀ (j : Nat) t v, Try.f7.params[j]? = some t → args[j]? = some v → Value.okWide Try.prog W .any base t v := hval0
  refine law_post (tb := 4) rfl rfl Try.underlying4 Try.laidOut_ (by kernel_rfl) ?_ hW ?_
  · intro ds hl
    match ds, hl with
    | [e0, e1, e2, e3, e4], _ => exact ⟨rfl, rfl, rfl⟩
  obtain ⟨p, q, hA0, hV, rfl, hfz, hnd⟩ := hW
  have hA : DataW.TrodAll enc Try.prog W 0 (fun _ => true) true Try.f7.params.toList args.toList ds p := hA0
  rw [Try.params7] at hA hval
  obtain ⟨v0, vs0, d0, ds0, p0, q0, hargs, rfl, rfl, h0, r0⟩ := trodAll_cons hA
  obtain ⟨v1, vs1, d1, ds1, p1, q1, rfl, rfl, rfl, h1, r1⟩ := trodAll_cons r0
  obtain ⟨v2, vs2, d2, ds2, p2, q2, rfl, rfl, rfl, h2, r2⟩ := trodAll_cons r1
  obtain ⟨v3, vs3, d3, ds3, p3, q3, rfl, rfl, rfl, h3, r3⟩ := trodAll_cons r2
  obtain ⟨v4, vs4, d4, ds4, p4, q4, rfl, rfl, rfl, h4, r4⟩ := trodAll_cons r3
  obtain ⟨rfl, rfl, rfl⟩ := trodAll_nil r4
  obtain rfl : args = #[v0, v1, v2, v3, v4] := by cases args; simp_all
  obtain ⟨a, b, c, d, rfl, ha, hb, hc, hd⟩ := rd_mar (hval 0 22 v0 rfl rfl) h0
  obtain ⟨n1, rfl, i1⟩ := rd_int (hval 1 3 v1 rfl rfl) h1
  obtain ⟨n2, rfl, i2⟩ := rd_int (hval 2 3 v2 rfl rfl) h2
  obtain ⟨n3, rfl, i3⟩ := rd_int (hval 3 3 v3 rfl rfl) h3
  obtain ⟨n4, rfl, i4⟩ := rd_int (hval 4 3 v4 rfl rfl) h4
  exact marksFloor_walk a b c d n1 n2 n3 n4 ha hb hc hd i2 W

theorem marksFloor_holds : Rows.MarksFloorSaid :=
  OpenClaim.holds_of_wide 7 Try.f7 rfl rfl rfl rfl rfl rfl rfl ⟨rfl, rfl, rfl, rfl, rfl⟩ rfl rfl rfl rfl rfl (by kernel_rfl) Try.func7 (by kernel_rfl)
    (of_decide_eq_true (by kernel_rfl)) (by unfold Func.isWrapper; rw [if_neg (of_decide_eq_false (by kernel_rfl))]; exact ⟨rfl, rfl⟩)
    (fun os started H enc _ => marksFloor_lifted os started H enc)
#print axioms marksFloor_holds
end Go.Proofs.Ytffabippjhipbaa
