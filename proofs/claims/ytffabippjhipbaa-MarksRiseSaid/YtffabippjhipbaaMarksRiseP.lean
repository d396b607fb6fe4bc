/- THE LAW MarksRise: for whatever input the call returns true and leaves its arguments as they were. No conditions. -/
import Derived.Test.YtffabippjhipbaaMarksRi
import Derived.Test.YtffabippjhipbaaLibRd
import Derived.Test.YtffabippjhipbaaMarksPr
namespace Go.Proofs.Ytffabippjhipbaa
open Go.ChangeShapes Go.WideShapes Go.ChangeAt Go.RowKit

set_option maxRecDepth 100000 in
theorem marksRise_lifted (os : Os) (started : os.Started) (H : Type) (enc : TypeId × Value → H) :
    ReturnsInHanded {} Try.checked os 4 .any (Rows.marksRiseSpec.pre6 enc Try.prog Try.f4 Rows.marksRiseRow.domain false) (Rows.marksRiseSpec.post enc Try.prog Try.f4 false true false false) := by
  refine returnsInHanded_of_change_sized (C := Try.checked) Try.own_ started (by kernel_rfl) Try.func4
    (ChangeSpec.witness6 (enc := enc) (C := Try.checked) false ⟨#[], #[mar 0 0 0 0, .slice none 0 0, .int .i64 0], []⟩ 8 (by kernel_rfl) (by kernel_rfl) (by kernel_rfl) (by kernel_rfl)) ?_
  intro W base args ds gs before hval0 hW _ hsz _
  have hval : ∀ (j : Nat) t v, Try.f4.params[j]? = some t → args[j]? = some v → Value.okWide Try.prog W .any base t v := hval0
  refine law_post (tb := 4) rfl rfl Try.underlying4 Try.laidOut_ (by kernel_rfl) ?_ hW ?_
  · intro ds hl
    match ds, hl with
    | [e0, e1, e2], _ => exact ⟨rfl, rfl, rfl⟩
  obtain ⟨p, q, hA0, hV, rfl, hfz, hnd⟩ := hW
  have hA : DataW.TrodAll enc Try.prog W 0 (fun _ => true) true Try.f4.params.toList args.toList ds p := hA0
  rw [Try.params4] at hA hval
  obtain ⟨v0, vs0, d0, ds0, p0, q0, hargs, rfl, rfl, h0, r0⟩ := trodAll_cons hA
  obtain ⟨v1, vs1, d1, ds1, p1, q1, rfl, rfl, rfl, h1, r1⟩ := trodAll_cons r0
  obtain ⟨v2, vs2, d2, ds2, p2, q2, rfl, rfl, rfl, h2, r2⟩ := trodAll_cons r1
  obtain ⟨rfl, rfl, rfl⟩ := trodAll_nil r2
  obtain rfl : args = #[v0, v1, v2] := by cases args; simp_all
  obtain ⟨a, b, c, d, rfl, ha, hb, hc, hd⟩ := rd_mar (hval 0 22 v0 rfl rfl) h0
  obtain ⟨B1, bl1, off1, len1, cap1, f1, g1, rfl, hc1, hb1, hl1⟩ := rd_pairs (hval 1 31 v1 rfl rfl) h1
  obtain ⟨n2, rfl, i2⟩ := rd_int (hval 2 3 v2 rfl rfl) h2
  exact marksRise_walk a b c d n2 B1 bl1 off1 len1 cap1 W f1 g1 hb1 hc1 hl1

theorem marksRise_holds : Rows.MarksRiseSaid :=
  OpenClaim.holds_of_wide 4 Try.f4 rfl rfl rfl rfl rfl rfl rfl ⟨rfl, rfl, rfl, rfl, rfl⟩ rfl rfl rfl rfl rfl (by kernel_rfl) Try.func4 (by kernel_rfl)
    (of_decide_eq_true (by kernel_rfl)) (by unfold Func.isWrapper; rw [if_neg (of_decide_eq_false (by kernel_rfl))]; exact ⟨rfl, rfl⟩)
    (fun os started H enc _ => marksRise_lifted os started H enc)
#print axioms marksRise_holds
end Go.Proofs.Ytffabippjhipbaa
