/- What the functions of the layer of marks compute, each function once: the walks. -/
import Derived.Test.YtffabippjhipbaaLib0
import Derived.WalkKit
import Derived.WalkLawsBesides
import Derived.WalkSpells
import Derived.Outline
import Derived.Below
import Derived.Laws.StructEq
namespace Go.Proofs.Ytffabippjhipbaa
open Go.RowKit

abbrev mar (a b c d : Int) : Value := .agg #[.int .i64 a, .int .i64 b, .int .i64 c, .int .i64 d]
def get4 (a b c d i : Int) : Int := if i = 0 then a else if i = 1 then b else if i = 2 then c else d
def lateF (a b c d src ts : Int) : Bool := decide (0 ≤ src ∧ src < 4 ∧ ts < get4 a b c d src)
def setOk (a b c d src ts : Int) : Bool := decide (0 ≤ src ∧ src < 4 ∧ 0 ≤ ts ∧ ts ≤ 1099511627776 ∧ get4 a b c d src ≤ ts)
def setV (a b c d src ts : Int) : Value :=
  if src = 0 then mar ts b c d else if src = 1 then mar a ts c d else if src = 2 then mar a b ts d else mar a b c ts

theorem eq_arr4 (a b c d x y z u : Int) (w : World) :
    (Op.equalIn 10000 22 (mar a b c d) (mar x y z u)).run Try.prog w = .ok (decide (a = x ∧ b = y ∧ c = z ∧ d = u)) w := by
  have : (Op.equalIn (9998+1+1) 22 (mar a b c d) (mar x y z u)).run Try.prog w = .ok (decide (a = x ∧ b = y ∧ c = z ∧ d = u)) w := by
    rw [Op.equalIn]
    simp only [Sem.run_bind, run_underlying Try.underlying22, Result.andThen_ok]
    simp [go_sem, Std.Legacy.Range.forIn_eq_forIn_range', show List.range' 0 4 = [0, 1, 2, 3] from rfl]
    by_cases h1 : a = x <;> by_cases h2 : b = y <;> by_cases h3 : c = z <;> by_cases h4 : d = u <;> simp [h1, h2, h3, h4]
  exact this

/-! ### Late -/
theorem late_any (a b c d src ts : Int) (w : World) :
    Calls Try.prog 14 #[mar a b c d, .int .i64 src, .int .i64 ts] w fun e w' => e = .returned (.bool (lateF a b c d src ts)) ∧ Below w.heap.size w w' := by
  have hc : src < 0 ∨ 4 ≤ src ∨ src = 0 ∨ src = 1 ∨ src = 2 ∨ src = 3 := by omega
  rcases hc with h | h | rfl | rfl | rfl | rfl
  · have hf : lateF a b c d src ts = false := by simp [lateF]; omega
    rw [hf]; clear hf
    go_enter Try.func14, Try.ntmps14
    go_wp2
    go_ret
    exact ⟨rfl, (Below.refl _ _).alloc (Nat.le_refl _) _⟩
  · have h0 : 0 ≤ src := by omega
    have hf : lateF a b c d src ts = false := by simp [lateF]; omega
    rw [hf]; clear hf
    go_enter Try.func14, Try.ntmps14
    go_wp2
    go_ret
    exact ⟨rfl, (Below.refl _ _).alloc (Nat.le_refl _) _⟩
  all_goals
    go_enter Try.func14, Try.ntmps14
    go_wp2
    go_ret
    exact ⟨by simp [lateF, get4], (Below.refl _ _).alloc (Nat.le_refl _) _⟩

theorem rlate_any (a b c d src ts : Int) (w : World) :
    Calls Try.prog 15 #[mar a b c d, .int .i64 src, .int .i64 ts] w fun e w' => e = .returned (.bool (lateF a b c d src ts)) ∧ Below w.heap.size w w' := by
  have hc : src < 0 ∨ 4 ≤ src ∨ src = 0 ∨ src = 1 ∨ src = 2 ∨ src = 3 := by omega
  rcases hc with h | h | rfl | rfl | rfl | rfl
  · have hf : lateF a b c d src ts = false := by simp [lateF]; omega
    rw [hf]; clear hf
    go_enter Try.func15, Try.ntmps15
    go_wp2
    go_ret
    exact ⟨rfl, (Below.refl _ _).alloc (Nat.le_refl _) _⟩
  · have h0 : 0 ≤ src := by omega
    have hf : lateF a b c d src ts = false := by simp [lateF]; omega
    rw [hf]; clear hf
    go_enter Try.func15, Try.ntmps15
    go_wp2
    go_ret
    exact ⟨rfl, (Below.refl _ _).alloc (Nat.le_refl _) _⟩
  all_goals
    go_enter Try.func15, Try.ntmps15
    go_wp2
    go_ret
    exact ⟨by simp [lateF, get4], (Below.refl _ _).alloc (Nat.le_refl _) _⟩

/-! ### Set -/
theorem set_out (a b c d src ts : Int) (w : World) (h : src < 0 ∨ 4 ≤ src) :
    Calls Try.prog 8 #[mar a b c d, .int .i64 src, .int .i64 ts] w fun e w' => e = .returned (.tuple #[mar a b c d, .bool false]) ∧ Below w.heap.size w w' := by
  rcases h with h | h
  · go_enter Try.func8, Try.ntmps8
    go_wp2
    refine wp_scope_fwd 0 rfl ?_
    go_wp2
    all_goals (try (refine wp_goto ⟨rfl, ?_⟩; go_wp2))
    all_goals (first | refine ret_noGoto ?_ | refine ret_jump ?_ | skip)
    all_goals (show bodyPost _ _ _ _ _ _)
    all_goals refine bodyPost_ret (v := .tuple #[mar a b c d, .bool false]) (by simp [results, Try.results8, go_sem]) rfl ⟨rfl, ?_⟩
    all_goals exact ((Below.refl _ _).alloc (Nat.le_refl _) _).alloc (by simp) _
  · have h0 : 0 ≤ src := by omega
    go_enter Try.func8, Try.ntmps8
    go_wp2
    refine wp_scope_fwd 0 rfl ?_
    go_wp2
    all_goals (try (refine wp_goto ⟨rfl, ?_⟩; go_wp2))
    all_goals (first | refine ret_noGoto ?_ | refine ret_jump ?_ | skip)
    all_goals (show bodyPost _ _ _ _ _ _)
    all_goals refine bodyPost_ret (v := .tuple #[mar a b c d, .bool false]) (by simp [results, Try.results8, go_sem]) rfl ⟨rfl, ?_⟩
    all_goals exact ((Below.refl _ _).alloc (Nat.le_refl _) _).alloc (by simp) _

theorem set_no0 (a b c d ts : Int) (w : World) (h : ts < 0 ∨ 1099511627776 < ts ∨ ts < a) :
    Calls Try.prog 8 #[mar a b c d, .int .i64 0, .int .i64 ts] w fun e w' => e = .returned (.tuple #[mar a b c d, .bool false]) ∧ Below w.heap.size w w' := by
  by_cases h1 : ts < max 0 a
  · have h2 : ts < 0 ∨ ts < a := by omega
    clear h h1
    go_enter Try.func8, Try.ntmps8
    go_wp2
    refine wp_scope_fwd 0 rfl ?_
    go_wp2
    all_goals (try (exfalso; omega))
    all_goals (try (refine wp_goto ⟨rfl, ?_⟩; go_wp2))
    all_goals (first | refine ret_noGoto ?_ | refine ret_jump ?_ | skip)
    all_goals (show bodyPost _ _ _ _ _ _)
    all_goals refine bodyPost_ret (v := .tuple #[mar a b c d, .bool false]) (by simp [results, Try.results8, go_sem]) rfl ⟨rfl, ?_⟩
    all_goals exact ((Below.refl _ _).alloc (Nat.le_refl _) _).alloc (by simp) _
  · have h2 : 1099511627776 < ts := by omega
    have h3 : a ≤ ts := by omega
    clear h h1
    go_enter Try.func8, Try.ntmps8
    go_wp2
    refine wp_scope_fwd 0 rfl ?_
    go_wp2
    all_goals (try (exfalso; omega))
    all_goals (try (refine wp_goto ⟨rfl, ?_⟩; go_wp2))
    all_goals (first | refine ret_noGoto ?_ | refine ret_jump ?_ | skip)
    all_goals (show bodyPost _ _ _ _ _ _)
    all_goals refine bodyPost_ret (v := .tuple #[mar a b c d, .bool false]) (by simp [results, Try.results8, go_sem]) rfl ⟨rfl, ?_⟩
    all_goals exact ((Below.refl _ _).alloc (Nat.le_refl _) _).alloc (by simp) _

theorem set_yes0 (a b c d ts : Int) (w : World) (h1 : 0 ≤ ts) (h2 : a ≤ ts) (h3 : ts ≤ 1099511627776) :
    Calls Try.prog 8 #[mar a b c d, .int .i64 0, .int .i64 ts] w fun e w' => e = .returned (.tuple #[mar ts b c d, .bool true]) ∧ Below w.heap.size w w' := by
  have heq := eq_arr4
  go_enter Try.func8, Try.ntmps8
  go_wp2
  go_step3
  go_wp2
  all_goals (first | refine ret_noGoto ?_ | refine ret_jump ?_ | skip)
  all_goals (show bodyPost _ _ _ _ _ _)
  all_goals refine bodyPost_ret (v := .tuple #[mar ts b c d, .bool true]) (by simp [results, Try.results8, go_sem, *]) rfl ⟨rfl, ?_⟩
  all_goals exact ((Below.refl _ _).alloc (Nat.le_refl _) _).alloc (by simp) _

theorem set_no1 (a b c d ts : Int) (w : World) (h : ts < 0 ∨ 1099511627776 < ts ∨ ts < b) :
    Calls Try.prog 8 #[mar a b c d, .int .i64 1, .int .i64 ts] w fun e w' => e = .returned (.tuple #[mar a b c d, .bool false]) ∧ Below w.heap.size w w' := by
  by_cases h1 : ts < max 0 b
  · have h2 : ts < 0 ∨ ts < b := by omega
    clear h h1
    go_enter Try.func8, Try.ntmps8
    go_wp2
    refine wp_scope_fwd 0 rfl ?_
    go_wp2
    all_goals (try (exfalso; omega))
    all_goals (try (refine wp_goto ⟨rfl, ?_⟩; go_wp2))
    all_goals (first | refine ret_noGoto ?_ | refine ret_jump ?_ | skip)
    all_goals (show bodyPost _ _ _ _ _ _)
    all_goals refine bodyPost_ret (v := .tuple #[mar a b c d, .bool false]) (by simp [results, Try.results8, go_sem]) rfl ⟨rfl, ?_⟩
    all_goals exact ((Below.refl _ _).alloc (Nat.le_refl _) _).alloc (by simp) _
  · have h2 : 1099511627776 < ts := by omega
    have h3 : b ≤ ts := by omega
    clear h h1
    go_enter Try.func8, Try.ntmps8
    go_wp2
    refine wp_scope_fwd 0 rfl ?_
    go_wp2
    all_goals (try (exfalso; omega))
    all_goals (try (refine wp_goto ⟨rfl, ?_⟩; go_wp2))
    all_goals (first | refine ret_noGoto ?_ | refine ret_jump ?_ | skip)
    all_goals (show bodyPost _ _ _ _ _ _)
    all_goals refine bodyPost_ret (v := .tuple #[mar a b c d, .bool false]) (by simp [results, Try.results8, go_sem]) rfl ⟨rfl, ?_⟩
    all_goals exact ((Below.refl _ _).alloc (Nat.le_refl _) _).alloc (by simp) _

theorem set_yes1 (a b c d ts : Int) (w : World) (h1 : 0 ≤ ts) (h2 : b ≤ ts) (h3 : ts ≤ 1099511627776) :
    Calls Try.prog 8 #[mar a b c d, .int .i64 1, .int .i64 ts] w fun e w' => e = .returned (.tuple #[mar a ts c d, .bool true]) ∧ Below w.heap.size w w' := by
  have heq := eq_arr4
  go_enter Try.func8, Try.ntmps8
  go_wp2
  go_step3
  go_wp2
  all_goals (first | refine ret_noGoto ?_ | refine ret_jump ?_ | skip)
  all_goals (show bodyPost _ _ _ _ _ _)
  all_goals refine bodyPost_ret (v := .tuple #[mar a ts c d, .bool true]) (by simp [results, Try.results8, go_sem, *]) rfl ⟨rfl, ?_⟩
  all_goals exact ((Below.refl _ _).alloc (Nat.le_refl _) _).alloc (by simp) _

theorem set_no2 (a b c d ts : Int) (w : World) (h : ts < 0 ∨ 1099511627776 < ts ∨ ts < c) :
    Calls Try.prog 8 #[mar a b c d, .int .i64 2, .int .i64 ts] w fun e w' => e = .returned (.tuple #[mar a b c d, .bool false]) ∧ Below w.heap.size w w' := by
  by_cases h1 : ts < max 0 c
  · have h2 : ts < 0 ∨ ts < c := by omega
    clear h h1
    go_enter Try.func8, Try.ntmps8
    go_wp2
    refine wp_scope_fwd 0 rfl ?_
    go_wp2
    all_goals (try (exfalso; omega))
    all_goals (try (refine wp_goto ⟨rfl, ?_⟩; go_wp2))
    all_goals (first | refine ret_noGoto ?_ | refine ret_jump ?_ | skip)
    all_goals (show bodyPost _ _ _ _ _ _)
    all_goals refine bodyPost_ret (v := .tuple #[mar a b c d, .bool false]) (by simp [results, Try.results8, go_sem]) rfl ⟨rfl, ?_⟩
    all_goals exact ((Below.refl _ _).alloc (Nat.le_refl _) _).alloc (by simp) _
  · have h2 : 1099511627776 < ts := by omega
    have h3 : c ≤ ts := by omega
    clear h h1
    go_enter Try.func8, Try.ntmps8
    go_wp2
    refine wp_scope_fwd 0 rfl ?_
    go_wp2
    all_goals (try (exfalso; omega))
    all_goals (try (refine wp_goto ⟨rfl, ?_⟩; go_wp2))
    all_goals (first | refine ret_noGoto ?_ | refine ret_jump ?_ | skip)
    all_goals (show bodyPost _ _ _ _ _ _)
    all_goals refine bodyPost_ret (v := .tuple #[mar a b c d, .bool false]) (by simp [results, Try.results8, go_sem]) rfl ⟨rfl, ?_⟩
    all_goals exact ((Below.refl _ _).alloc (Nat.le_refl _) _).alloc (by simp) _

theorem set_yes2 (a b c d ts : Int) (w : World) (h1 : 0 ≤ ts) (h2 : c ≤ ts) (h3 : ts ≤ 1099511627776) :
    Calls Try.prog 8 #[mar a b c d, .int .i64 2, .int .i64 ts] w fun e w' => e = .returned (.tuple #[mar a b ts d, .bool true]) ∧ Below w.heap.size w w' := by
  have heq := eq_arr4
  go_enter Try.func8, Try.ntmps8
  go_wp2
  go_step3
  go_wp2
  all_goals (first | refine ret_noGoto ?_ | refine ret_jump ?_ | skip)
  all_goals (show bodyPost _ _ _ _ _ _)
  all_goals refine bodyPost_ret (v := .tuple #[mar a b ts d, .bool true]) (by simp [results, Try.results8, go_sem, *]) rfl ⟨rfl, ?_⟩
  all_goals exact ((Below.refl _ _).alloc (Nat.le_refl _) _).alloc (by simp) _

theorem set_no3 (a b c d ts : Int) (w : World) (h : ts < 0 ∨ 1099511627776 < ts ∨ ts < d) :
    Calls Try.prog 8 #[mar a b c d, .int .i64 3, .int .i64 ts] w fun e w' => e = .returned (.tuple #[mar a b c d, .bool false]) ∧ Below w.heap.size w w' := by
  by_cases h1 : ts < max 0 d
  · have h2 : ts < 0 ∨ ts < d := by omega
    clear h h1
    go_enter Try.func8, Try.ntmps8
    go_wp2
    refine wp_scope_fwd 0 rfl ?_
    go_wp2
    all_goals (try (exfalso; omega))
    all_goals (try (refine wp_goto ⟨rfl, ?_⟩; go_wp2))
    all_goals (first | refine ret_noGoto ?_ | refine ret_jump ?_ | skip)
    all_goals (show bodyPost _ _ _ _ _ _)
    all_goals refine bodyPost_ret (v := .tuple #[mar a b c d, .bool false]) (by simp [results, Try.results8, go_sem]) rfl ⟨rfl, ?_⟩
    all_goals exact ((Below.refl _ _).alloc (Nat.le_refl _) _).alloc (by simp) _
  · have h2 : 1099511627776 < ts := by omega
    have h3 : d ≤ ts := by omega
    clear h h1
    go_enter Try.func8, Try.ntmps8
    go_wp2
    refine wp_scope_fwd 0 rfl ?_
    go_wp2
    all_goals (try (exfalso; omega))
    all_goals (try (refine wp_goto ⟨rfl, ?_⟩; go_wp2))
    all_goals (first | refine ret_noGoto ?_ | refine ret_jump ?_ | skip)
    all_goals (show bodyPost _ _ _ _ _ _)
    all_goals refine bodyPost_ret (v := .tuple #[mar a b c d, .bool false]) (by simp [results, Try.results8, go_sem]) rfl ⟨rfl, ?_⟩
    all_goals exact ((Below.refl _ _).alloc (Nat.le_refl _) _).alloc (by simp) _

theorem set_yes3 (a b c d ts : Int) (w : World) (h1 : 0 ≤ ts) (h2 : d ≤ ts) (h3 : ts ≤ 1099511627776) :
    Calls Try.prog 8 #[mar a b c d, .int .i64 3, .int .i64 ts] w fun e w' => e = .returned (.tuple #[mar a b c ts, .bool true]) ∧ Below w.heap.size w w' := by
  have heq := eq_arr4
  go_enter Try.func8, Try.ntmps8
  go_wp2
  go_step3
  go_wp2
  all_goals (first | refine ret_noGoto ?_ | refine ret_jump ?_ | skip)
  all_goals (show bodyPost _ _ _ _ _ _)
  all_goals refine bodyPost_ret (v := .tuple #[mar a b c ts, .bool true]) (by simp [results, Try.results8, go_sem, *]) rfl ⟨rfl, ?_⟩
  all_goals exact ((Below.refl _ _).alloc (Nat.le_refl _) _).alloc (by simp) _

theorem set_any (a b c d src ts : Int) (w : World) :
    Calls Try.prog 8 #[mar a b c d, .int .i64 src, .int .i64 ts] w fun e w' => e = .returned (.tuple #[if setOk a b c d src ts then setV a b c d src ts else mar a b c d, .bool (setOk a b c d src ts)]) ∧ Below w.heap.size w w' := by
  have hc : (src < 0 ∨ 4 ≤ src) ∨ src = 0 ∨ src = 1 ∨ src = 2 ∨ src = 3 := by omega
  rcases hc with h | rfl | rfl | rfl | rfl
  · have hf : setOk a b c d src ts = false := by simp [setOk]; omega
    rw [hf]
    exact set_out a b c d src ts w h
  · by_cases h : ts < 0 ∨ 1099511627776 < ts ∨ ts < a
    · have hf : setOk a b c d 0 ts = false := by simp [setOk, get4]; omega
      rw [hf]
      exact set_no0 a b c d ts w h
    · have hf : setOk a b c d 0 ts = true := by simp [setOk, get4]; omega
      rw [hf]
      exact set_yes0 a b c d ts w (by omega) (by omega) (by omega)
  · by_cases h : ts < 0 ∨ 1099511627776 < ts ∨ ts < b
    · have hf : setOk a b c d 1 ts = false := by simp [setOk, get4]; omega
      rw [hf]
      exact set_no1 a b c d ts w h
    · have hf : setOk a b c d 1 ts = true := by simp [setOk, get4]; omega
      rw [hf]
      exact set_yes1 a b c d ts w (by omega) (by omega) (by omega)
  · by_cases h : ts < 0 ∨ 1099511627776 < ts ∨ ts < c
    · have hf : setOk a b c d 2 ts = false := by simp [setOk, get4]; omega
      rw [hf]
      exact set_no2 a b c d ts w h
    · have hf : setOk a b c d 2 ts = true := by simp [setOk, get4]; omega
      rw [hf]
      exact set_yes2 a b c d ts w (by omega) (by omega) (by omega)
  · by_cases h : ts < 0 ∨ 1099511627776 < ts ∨ ts < d
    · have hf : setOk a b c d 3 ts = false := by simp [setOk, get4]; omega
      rw [hf]
      exact set_no3 a b c d ts w h
    · have hf : setOk a b c d 3 ts = true := by simp [setOk, get4]; omega
      rw [hf]
      exact set_yes3 a b c d ts w (by omega) (by omega) (by omega)
end Go.Proofs.Ytffabippjhipbaa
