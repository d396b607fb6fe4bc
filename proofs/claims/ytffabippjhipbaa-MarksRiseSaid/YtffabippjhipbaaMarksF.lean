/- What num.Sub, straggleref01.Sub and the floors of the layer of marks compute. -/
import Derived.Test.YtffabippjhipbaaMarksI
import Derived.Test.YtffabippjhipbaaLibRd
namespace Go.Proofs.Ytffabippjhipbaa
open Go.RowKit Go.Shelf

theorem wrap_over (a b : Int) (ha : In64 a) (hb : In64 b) (hr : ¬ In64 (a - b)) : (b < 0 ∧ wrap64 (a - b) ≤ a) ∨ (0 ≤ b ∧ a < wrap64 (a - b)) := by
  unfold In64 at *
  unfold wrap64
  omega

theorem sub_ok (a b : Int) (w : World) (h : In64 a ∧ In64 b) (hr : In64 (a - b)) :
    Calls Try.prog 20 #[.int .i64 a, .int .i64 b] w fun e w' => e = .returned (.tuple #[.int .i64 (a - b), .int .i64 0]) ∧ w = w' := by
  obtain ⟨⟨h1, h2⟩, h3, h4⟩ := h
  obtain ⟨h5, h6⟩ := hr
  by_cases hb : b < 0
  · have hc : decide (a < a - b) = true := by simp; omega
    go_enter Try.func20, Try.ntmps20
    go_wp2
    go_step3
    go_wp2
    refine ret_noGoto ?_
    go_ret2
    exact ⟨rfl, rfl⟩
  · have hc : decide (a < a - b) = false := by simp; omega
    go_enter Try.func20, Try.ntmps20
    go_wp2
    go_step3
    go_wp2
    refine ret_noGoto ?_
    go_ret2
    exact ⟨rfl, rfl⟩
theorem sub_over (a b : Int) (w : World) (h : In64 a ∧ In64 b) (hr : ¬ In64 (a - b)) :
    Calls Try.prog 20 #[.int .i64 a, .int .i64 b] w fun e w' => e = .returned (.tuple #[.int .i64 0, .int .i64 12]) ∧ w = w' := by
  have hw := wrap_over a b h.1 h.2 hr
  clear h hr
  rcases hw with ⟨h1, h2⟩ | ⟨h1, h2⟩
  · have hc : decide (a < wrap64 (a - b)) = false := by simp; omega
    go_enter Try.func20, Try.ntmps20
    go_wp2
    refine wp_scope_fwd 0 rfl ?_
    go_wp2
    refine wp_goto ⟨rfl, ?_⟩
    go_wp2
    refine ret_noGoto ?_
    go_ret2
    exact ⟨rfl, rfl⟩
  · have hc : decide (a < wrap64 (a - b)) = true := by simp; omega
    have hd : decide (b < 0) = false := by simp; omega
    go_enter Try.func20, Try.ntmps20
    go_wp2
    refine wp_scope_fwd 0 rfl ?_
    go_wp2
    refine wp_goto ⟨rfl, ?_⟩
    go_wp2
    refine ret_noGoto ?_
    go_ret2
    exact ⟨rfl, rfl⟩
theorem most_any (w : World) : Calls Try.prog 23 #[] w fun e w' => e = .returned (.int .i64 9223372036854775807) ∧ w = w' := by
  go_enter Try.func23, Try.ntmps23
  go_wp2
  go_ret
  exact ⟨rfl, rfl⟩
theorem rsub_ok (a b : Int) (w : World) (h : In64 a ∧ In64 b) (hr : In64 (a - b)) :
    Calls Try.prog 21 #[.int .i64 a, .int .i64 b] w fun e w' => e = .returned (.tuple #[.int .i64 (a - b), .int .i64 0]) ∧ w = w' := by
  obtain ⟨⟨h1, h2⟩, h3, h4⟩ := h
  obtain ⟨h5, h6⟩ := hr
  by_cases hb : 0 < b
  · go_enter Try.func21, Try.ntmps21
    go_wp2_with (go_at_call 23; refine (most_any _).mono ?_; rintro e w' ⟨rfl, rfl⟩)
    go_ret2
    exact ⟨rfl, rfl⟩
  · by_cases hb0 : b < 0
    · go_enter Try.func21, Try.ntmps21
      go_wp2_with (go_at_call 23; refine (most_any _).mono ?_; rintro e w' ⟨rfl, rfl⟩)
      go_ret2
      exact ⟨rfl, rfl⟩
    · obtain rfl : b = 0 := by omega
      go_enter Try.func21, Try.ntmps21
      go_wp2_with (go_at_call 23; refine (most_any _).mono ?_; rintro e w' ⟨rfl, rfl⟩)
      go_ret2
      exact ⟨by simp, rfl⟩
theorem rsub_over (a b : Int) (w : World) (h : In64 a ∧ In64 b) (hr : ¬ In64 (a - b)) :
    Calls Try.prog 21 #[.int .i64 a, .int .i64 b] w fun e w' => e = .returned (.tuple #[.int .i64 0, .int .i64 12]) ∧ w = w' := by
  obtain ⟨⟨h1, h2⟩, h3, h4⟩ := h
  unfold In64 at hr
  by_cases hb : 0 < b
  · have h5 : a < -9223372036854775808 + b := by omega
    clear hr
    go_enter Try.func21, Try.ntmps21
    go_wp2_with (go_at_call 23; refine (most_any _).mono ?_; rintro e w' ⟨rfl, rfl⟩)
    go_ret2
    exact ⟨rfl, rfl⟩
  · have hb0 : b < 0 := by omega
    have h5 : 9223372036854775807 + b < a := by omega
    clear hr
    go_enter Try.func21, Try.ntmps21
    go_wp2_with (go_at_call 23; refine (most_any _).mono ?_; rintro e w' ⟨rfl, rfl⟩)
    go_ret2
    exact ⟨rfl, rfl⟩

instance (x : Int) : Decidable (In64 x) := inferInstanceAs (Decidable (_ ∧ _))
def floorF (a b c d sources window : Int) : Int :=
  if In64 (leastF a b c d sources - window) then leastF a b c d sources - window else if 0 < window then -9223372036854775808 else 9223372036854775807
theorem leastF_in (a b c d sources : Int) (ha : In64 a) (hb : In64 b) (hc : In64 c) (hd : In64 d) : In64 (leastF a b c d sources) := by
  unfold leastF In64 at *
  repeat' split
  all_goals omega

/-! ### the references' Set, Right, Least -/
theorem rset_any (a b c d src ts : Int) (w : World) :
    Calls Try.prog 9 #[mar a b c d, .int .i64 src, .int .i64 ts] w fun e w' => e = .returned (.tuple #[if setOk a b c d src ts then setV a b c d src ts else mar a b c d, .bool (setOk a b c d src ts)]) ∧ Below w.heap.size w w' := by
  have hc : src < 0 ∨ 4 ≤ src ∨ src = 0 ∨ src = 1 ∨ src = 2 ∨ src = 3 := by omega
  rcases hc with h | h | rfl | rfl | rfl | rfl
  · have hf : setOk a b c d src ts = false := by simp [setOk]; omega
    rw [hf]; clear hf
    go_enter Try.func9, Try.ntmps9
    go_wp2
    refine bodyPost_ret (v := .tuple #[mar a b c d, .bool false]) (by simp [results, Try.results9, go_sem]) rfl ⟨rfl, ?_⟩
    exact ((Below.refl _ _).alloc (Nat.le_refl _) _).alloc (by simp) _
  · have h0 : 0 ≤ src := by omega
    have hf : setOk a b c d src ts = false := by simp [setOk]; omega
    rw [hf]; clear hf
    go_enter Try.func9, Try.ntmps9
    go_wp2
    refine bodyPost_ret (v := .tuple #[mar a b c d, .bool false]) (by simp [results, Try.results9, go_sem]) rfl ⟨rfl, ?_⟩
    exact ((Below.refl _ _).alloc (Nat.le_refl _) _).alloc (by simp) _
  · by_cases h0 : ts < 0
    · have hf : setOk a b c d 0 ts = false := by simp [setOk, get4]; omega
      rw [hf]; clear hf
      go_enter Try.func9, Try.ntmps9
      go_wp2
      refine bodyPost_ret (v := .tuple #[mar a b c d, .bool false]) (by simp [results, Try.results9, go_sem]) rfl ⟨rfl, ?_⟩
      exact ((Below.refl _ _).alloc (Nat.le_refl _) _).alloc (by simp) _
    by_cases h1 : 1099511627776 < ts
    · have hf : setOk a b c d 0 ts = false := by simp [setOk, get4]; omega
      rw [hf]; clear hf
      go_enter Try.func9, Try.ntmps9
      go_wp2
      refine bodyPost_ret (v := .tuple #[mar a b c d, .bool false]) (by simp [results, Try.results9, go_sem]) rfl ⟨rfl, ?_⟩
      exact ((Below.refl _ _).alloc (Nat.le_refl _) _).alloc (by simp) _
    by_cases h2 : ts < a
    · have hf : setOk a b c d 0 ts = false := by simp [setOk, get4]; omega
      rw [hf]; clear hf
      go_enter Try.func9, Try.ntmps9
      go_wp2
      refine bodyPost_ret (v := .tuple #[mar a b c d, .bool false]) (by simp [results, Try.results9, go_sem]) rfl ⟨rfl, ?_⟩
      exact ((Below.refl _ _).alloc (Nat.le_refl _) _).alloc (by simp) _
    · have hf : setOk a b c d 0 ts = true := by simp [setOk, get4]; omega
      rw [hf]; clear hf
      go_enter Try.func9, Try.ntmps9
      go_wp2
      refine bodyPost_ret (v := .tuple #[mar ts b c d, .bool true]) (by simp [results, Try.results9, go_sem]) rfl ⟨rfl, ?_⟩
      exact ((Below.refl _ _).alloc (Nat.le_refl _) _).alloc (by simp) _
  · by_cases h0 : ts < 0
    · have hf : setOk a b c d 1 ts = false := by simp [setOk, get4]; omega
      rw [hf]; clear hf
      go_enter Try.func9, Try.ntmps9
      go_wp2
      refine bodyPost_ret (v := .tuple #[mar a b c d, .bool false]) (by simp [results, Try.results9, go_sem]) rfl ⟨rfl, ?_⟩
      exact ((Below.refl _ _).alloc (Nat.le_refl _) _).alloc (by simp) _
    by_cases h1 : 1099511627776 < ts
    · have hf : setOk a b c d 1 ts = false := by simp [setOk, get4]; omega
      rw [hf]; clear hf
      go_enter Try.func9, Try.ntmps9
      go_wp2
      refine bodyPost_ret (v := .tuple #[mar a b c d, .bool false]) (by simp [results, Try.results9, go_sem]) rfl ⟨rfl, ?_⟩
      exact ((Below.refl _ _).alloc (Nat.le_refl _) _).alloc (by simp) _
    by_cases h2 : ts < b
    · have hf : setOk a b c d 1 ts = false := by simp [setOk, get4]; omega
      rw [hf]; clear hf
      go_enter Try.func9, Try.ntmps9
      go_wp2
      refine bodyPost_ret (v := .tuple #[mar a b c d, .bool false]) (by simp [results, Try.results9, go_sem]) rfl ⟨rfl, ?_⟩
      exact ((Below.refl _ _).alloc (Nat.le_refl _) _).alloc (by simp) _
    · have hf : setOk a b c d 1 ts = true := by simp [setOk, get4]; omega
      rw [hf]; clear hf
      go_enter Try.func9, Try.ntmps9
      go_wp2
      refine bodyPost_ret (v := .tuple #[mar a ts c d, .bool true]) (by simp [results, Try.results9, go_sem]) rfl ⟨rfl, ?_⟩
      exact ((Below.refl _ _).alloc (Nat.le_refl _) _).alloc (by simp) _
  · by_cases h0 : ts < 0
    · have hf : setOk a b c d 2 ts = false := by simp [setOk, get4]; omega
      rw [hf]; clear hf
      go_enter Try.func9, Try.ntmps9
      go_wp2
      refine bodyPost_ret (v := .tuple #[mar a b c d, .bool false]) (by simp [results, Try.results9, go_sem]) rfl ⟨rfl, ?_⟩
      exact ((Below.refl _ _).alloc (Nat.le_refl _) _).alloc (by simp) _
    by_cases h1 : 1099511627776 < ts
    · have hf : setOk a b c d 2 ts = false := by simp [setOk, get4]; omega
      rw [hf]; clear hf
      go_enter Try.func9, Try.ntmps9
      go_wp2
      refine bodyPost_ret (v := .tuple #[mar a b c d, .bool false]) (by simp [results, Try.results9, go_sem]) rfl ⟨rfl, ?_⟩
      exact ((Below.refl _ _).alloc (Nat.le_refl _) _).alloc (by simp) _
    by_cases h2 : ts < c
    · have hf : setOk a b c d 2 ts = false := by simp [setOk, get4]; omega
      rw [hf]; clear hf
      go_enter Try.func9, Try.ntmps9
      go_wp2
      refine bodyPost_ret (v := .tuple #[mar a b c d, .bool false]) (by simp [results, Try.results9, go_sem]) rfl ⟨rfl, ?_⟩
      exact ((Below.refl _ _).alloc (Nat.le_refl _) _).alloc (by simp) _
    · have hf : setOk a b c d 2 ts = true := by simp [setOk, get4]; omega
      rw [hf]; clear hf
      go_enter Try.func9, Try.ntmps9
      go_wp2
      refine bodyPost_ret (v := .tuple #[mar a b ts d, .bool true]) (by simp [results, Try.results9, go_sem]) rfl ⟨rfl, ?_⟩
      exact ((Below.refl _ _).alloc (Nat.le_refl _) _).alloc (by simp) _
  · by_cases h0 : ts < 0
    · have hf : setOk a b c d 3 ts = false := by simp [setOk, get4]; omega
      rw [hf]; clear hf
      go_enter Try.func9, Try.ntmps9
      go_wp2
      refine bodyPost_ret (v := .tuple #[mar a b c d, .bool false]) (by simp [results, Try.results9, go_sem]) rfl ⟨rfl, ?_⟩
      exact ((Below.refl _ _).alloc (Nat.le_refl _) _).alloc (by simp) _
    by_cases h1 : 1099511627776 < ts
    · have hf : setOk a b c d 3 ts = false := by simp [setOk, get4]; omega
      rw [hf]; clear hf
      go_enter Try.func9, Try.ntmps9
      go_wp2
      refine bodyPost_ret (v := .tuple #[mar a b c d, .bool false]) (by simp [results, Try.results9, go_sem]) rfl ⟨rfl, ?_⟩
      exact ((Below.refl _ _).alloc (Nat.le_refl _) _).alloc (by simp) _
    by_cases h2 : ts < d
    · have hf : setOk a b c d 3 ts = false := by simp [setOk, get4]; omega
      rw [hf]; clear hf
      go_enter Try.func9, Try.ntmps9
      go_wp2
      refine bodyPost_ret (v := .tuple #[mar a b c d, .bool false]) (by simp [results, Try.results9, go_sem]) rfl ⟨rfl, ?_⟩
      exact ((Below.refl _ _).alloc (Nat.le_refl _) _).alloc (by simp) _
    · have hf : setOk a b c d 3 ts = true := by simp [setOk, get4]; omega
      rw [hf]; clear hf
      go_enter Try.func9, Try.ntmps9
      go_wp2
      refine bodyPost_ret (v := .tuple #[mar a b c ts, .bool true]) (by simp [results, Try.results9, go_sem]) rfl ⟨rfl, ?_⟩
      exact ((Below.refl _ _).alloc (Nat.le_refl _) _).alloc (by simp) _

def OkTo (a b c d : Int) (k : Nat) : Prop := (0 < k → 0 ≤ a ∧ a ≤ 1099511627776) ∧ (1 < k → 0 ≤ b ∧ b ≤ 1099511627776) ∧ (2 < k → 0 ≤ c ∧ c ≤ 1099511627776) ∧ (3 < k → 0 ≤ d ∧ d ≤ 1099511627776)
theorem rright_any (a b c d : Int) (w : World) :
    Calls Try.prog 11 #[mar a b c d] w fun e w' => e = .returned (.bool (rightF a b c d)) ∧ Below w.heap.size w w' := by
  go_enter Try.func11, Try.ntmps11
  go_wp2
  go_loop [3] (fun i => ∃ k : Nat, k ≤ 4 ∧ i = .int .i64 k ∧ OkTo a b c d k) (fun i => 4 - (intOf i).toNat)
  case atStart => exact ⟨0, by omega, rfl, by simp [OkTo]⟩
  case round =>
    obtain ⟨k, hk, rfl, hok⟩ := hrel
    have h4 : k = 0 ∨ k = 1 ∨ k = 2 ∨ k = 3 ∨ k = 4 := by omega
    clear hk
    rcases h4 with rfl | rfl | rfl | rfl | rfl
    · by_cases h0 : a < 0
      · have HF := hide (show rightF a b c d = false by simp [rightF]; omega)
        clear hok
        go_wp2
        go_ret
        exact ⟨(by rw [HF.out]; first | done | rfl), (Below.refl _ _).alloc (Nat.le_refl _) _⟩
      by_cases h1 : 1099511627776 < a
      · have HF := hide (show rightF a b c d = false by simp [rightF]; omega)
        clear hok
        go_wp2
        go_ret
        exact ⟨(by rw [HF.out]; first | done | rfl), (Below.refl _ _).alloc (Nat.le_refl _) _⟩
      · have HO := hide hok
        clear hok
        go_wp2
        go_round
        case rel => exact ⟨1, by omega, by go_num, by have := HO.out; unfold OkTo at *; omega⟩
        case measure => simp [intOf]
    · by_cases h0 : b < 0
      · have HF := hide (show rightF a b c d = false by simp [rightF]; omega)
        clear hok
        go_wp2
        go_ret
        exact ⟨(by rw [HF.out]; first | done | rfl), (Below.refl _ _).alloc (Nat.le_refl _) _⟩
      by_cases h1 : 1099511627776 < b
      · have HF := hide (show rightF a b c d = false by simp [rightF]; omega)
        clear hok
        go_wp2
        go_ret
        exact ⟨(by rw [HF.out]; first | done | rfl), (Below.refl _ _).alloc (Nat.le_refl _) _⟩
      · have HO := hide hok
        clear hok
        go_wp2
        go_round
        case rel => exact ⟨2, by omega, by go_num, by have := HO.out; unfold OkTo at *; omega⟩
        case measure => simp [intOf]
    · by_cases h0 : c < 0
      · have HF := hide (show rightF a b c d = false by simp [rightF]; omega)
        clear hok
        go_wp2
        go_ret
        exact ⟨(by rw [HF.out]; first | done | rfl), (Below.refl _ _).alloc (Nat.le_refl _) _⟩
      by_cases h1 : 1099511627776 < c
      · have HF := hide (show rightF a b c d = false by simp [rightF]; omega)
        clear hok
        go_wp2
        go_ret
        exact ⟨(by rw [HF.out]; first | done | rfl), (Below.refl _ _).alloc (Nat.le_refl _) _⟩
      · have HO := hide hok
        clear hok
        go_wp2
        go_round
        case rel => exact ⟨3, by omega, by go_num, by have := HO.out; unfold OkTo at *; omega⟩
        case measure => simp [intOf]
    · by_cases h0 : d < 0
      · have HF := hide (show rightF a b c d = false by simp [rightF]; omega)
        clear hok
        go_wp2
        go_ret
        exact ⟨(by rw [HF.out]; first | done | rfl), (Below.refl _ _).alloc (Nat.le_refl _) _⟩
      by_cases h1 : 1099511627776 < d
      · have HF := hide (show rightF a b c d = false by simp [rightF]; omega)
        clear hok
        go_wp2
        go_ret
        exact ⟨(by rw [HF.out]; first | done | rfl), (Below.refl _ _).alloc (Nat.le_refl _) _⟩
      · have HO := hide hok
        clear hok
        go_wp2
        go_round
        case rel => exact ⟨4, by omega, by go_num, by have := HO.out; unfold OkTo at *; omega⟩
        case measure => simp [intOf]
    · have HF := hide (show rightF a b c d = true by unfold OkTo at hok; simp [rightF]; omega)
      clear hok
      go_wp2
      go_ret
      exact ⟨(by rw [HF.out]; first | done | rfl), (Below.refl _ _).alloc (Nat.le_refl _) _⟩
def lowTo (a b c d : Int) : Nat → Int
  | 0 => a
  | 1 => a
  | 2 => min a b
  | 3 => min (min a b) c
  | _ => min (min (min a b) c) d
theorem rleast_any (a b c d sources : Int) (w : World) :
    Calls Try.prog 13 #[mar a b c d, .int .i64 sources] w fun e w' => e = .returned (.int .i64 (leastF a b c d sources)) ∧ Below w.heap.size w w' := by
  go_enter Try.func13, Try.ntmps13
  go_wp2
  go_loop [5, 6] (fun o i => ∃ k : Nat, 1 ≤ k ∧ k ≤ 4 ∧ (1 < k → (k : Int) ≤ sources) ∧ i = .int .i64 k ∧ o = .int .i64 (lowTo a b c d k)) (fun _ i => 4 - (intOf i).toNat)
  case atStart => exact ⟨1, by omega, by omega, by omega, rfl, rfl⟩
  case round =>
    obtain ⟨k, hk1, hk4, hs, rfl, rfl⟩ := hrel
    have h4 : k = 1 ∨ k = 2 ∨ k = 3 ∨ k = 4 := by omega
    clear hk1 hk4
    rcases h4 with rfl | rfl | rfl | rfl
    · by_cases h0 : (1 : Int) < sources
      · have HL := hide (show lowTo a b c d 2 = min (lowTo a b c d 1) b from rfl)
        generalize lowTo a b c d 1 = m at *
        clear hs
        go_wp2
        all_goals
          go_round
          case rel => exact ⟨2, by omega, by omega, by omega, by go_num, by rw [HL.out]; congr 1; omega⟩
          case measure => simp [intOf]
      · have HL := hide (show lowTo a b c d 1 = leastF a b c d sources by simp only [lowTo, leastF]; repeat' split <;> omega)
        clear hs
        go_wp2
        go_ret
        exact ⟨(by rw [HL.out]; first | done | rfl), (Below.refl _ _).alloc (Nat.le_refl _) _⟩
    · by_cases h0 : (2 : Int) < sources
      · have HL := hide (show lowTo a b c d 3 = min (lowTo a b c d 2) c from rfl)
        generalize lowTo a b c d 2 = m at *
        clear hs
        go_wp2
        all_goals
          go_round
          case rel => exact ⟨3, by omega, by omega, by omega, by go_num, by rw [HL.out]; congr 1; omega⟩
          case measure => simp [intOf]
      · have HL := hide (show lowTo a b c d 2 = leastF a b c d sources by have hs2 := hs (by omega); simp only [lowTo, leastF]; repeat' split <;> omega)
        clear hs
        go_wp2
        go_ret
        exact ⟨(by rw [HL.out]; first | done | rfl), (Below.refl _ _).alloc (Nat.le_refl _) _⟩
    · by_cases h0 : (3 : Int) < sources
      · have HL := hide (show lowTo a b c d 4 = min (lowTo a b c d 3) d from rfl)
        generalize lowTo a b c d 3 = m at *
        clear hs
        go_wp2
        all_goals
          go_round
          case rel => exact ⟨4, by omega, by omega, by omega, by go_num, by rw [HL.out]; congr 1; omega⟩
          case measure => simp [intOf]
      · have HL := hide (show lowTo a b c d 3 = leastF a b c d sources by have hs2 := hs (by omega); simp only [lowTo, leastF]; repeat' split <;> omega)
        clear hs
        go_wp2
        go_ret
        exact ⟨(by rw [HL.out]; first | done | rfl), (Below.refl _ _).alloc (Nat.le_refl _) _⟩
    · have hs2 := hs (by omega)
      have HL := hide (show lowTo a b c d 4 = leastF a b c d sources by simp only [lowTo, leastF]; repeat' split <;> omega)
      clear hs
      have hs3 : (4 : Int) ≤ sources := by omega
      by_cases h0 : (4 : Int) < sources
      all_goals
        go_wp2
        go_ret
        exact ⟨(by rw [HL.out]; first | done | rfl), (Below.refl _ _).alloc (Nat.le_refl _) _⟩

theorem floor_any (a b c d sources window : Int) (w : World) (ha : In64 a) (hb : In64 b) (hc : In64 c) (hd : In64 d) (hw : In64 window) :
    Calls Try.prog 16 #[mar a b c d, .int .i64 sources, .int .i64 window] w fun e w' => e = .returned (.int .i64 (floorF a b c d sources window)) ∧ Below w.heap.size w w' := by
  have hm := leastF_in a b c d sources ha hb hc hd
  unfold floorF
  clear ha hb hc hd
  by_cases hr : In64 (leastF a b c d sources - window)
  · rw [if_pos hr]
    go_enter Try.func16, Try.ntmps16
    go_wp2_with fail
    refine (least_any _ _ _ _ _ _).mono ?_
    rintro e w1 ⟨rfl, hbb⟩
    go_wp2_with fail
    refine (sub_ok _ _ _ ⟨hm, hw⟩ hr).mono ?_
    rintro e w2 ⟨rfl, rfl⟩
    go_wp2
    go_ret
    exact ⟨rfl, ((Below.refl _ _).alloc (Nat.le_refl _) _).trans (hbb.mono (by simp))⟩
  · rw [if_neg hr]
    by_cases h0 : 0 < window
    · rw [if_pos h0]
      go_enter Try.func16, Try.ntmps16
      go_wp2_with fail
      refine (least_any _ _ _ _ _ _).mono ?_
      rintro e w1 ⟨rfl, hbb⟩
      go_wp2_with fail
      refine (sub_over _ _ _ ⟨hm, hw⟩ hr).mono ?_
      rintro e w2 ⟨rfl, rfl⟩
      go_wp2
      go_ret
      exact ⟨rfl, ((Below.refl _ _).alloc (Nat.le_refl _) _).trans (hbb.mono (by simp))⟩
    · rw [if_neg h0]
      go_enter Try.func16, Try.ntmps16
      go_wp2_with fail
      refine (least_any _ _ _ _ _ _).mono ?_
      rintro e w1 ⟨rfl, hbb⟩
      go_wp2_with fail
      refine (sub_over _ _ _ ⟨hm, hw⟩ hr).mono ?_
      rintro e w2 ⟨rfl, rfl⟩
      go_wp2
      go_ret
      exact ⟨rfl, ((Below.refl _ _).alloc (Nat.le_refl _) _).trans (hbb.mono (by simp))⟩

theorem rfloor_any (a b c d sources window : Int) (w : World) (ha : In64 a) (hb : In64 b) (hc : In64 c) (hd : In64 d) (hw : In64 window) :
    Calls Try.prog 17 #[mar a b c d, .int .i64 sources, .int .i64 window] w fun e w' => e = .returned (.int .i64 (floorF a b c d sources window)) ∧ Below w.heap.size w w' := by
  have hm := leastF_in a b c d sources ha hb hc hd
  unfold floorF
  clear ha hb hc hd
  by_cases hr : In64 (leastF a b c d sources - window)
  · rw [if_pos hr]
    go_enter Try.func17, Try.ntmps17
    go_wp2_with fail
    refine (rleast_any _ _ _ _ _ _).mono ?_
    rintro e w1 ⟨rfl, hbb⟩
    go_wp2_with fail
    refine (rsub_ok _ _ _ ⟨hm, hw⟩ hr).mono ?_
    rintro e w2 ⟨rfl, rfl⟩
    go_wp2
    go_ret
    exact ⟨rfl, ((Below.refl _ _).alloc (Nat.le_refl _) _).trans (hbb.mono (by simp))⟩
  · rw [if_neg hr]
    by_cases h0 : 0 < window
    · rw [if_pos h0]
      go_enter Try.func17, Try.ntmps17
      go_wp2_with fail
      refine (rleast_any _ _ _ _ _ _).mono ?_
      rintro e w1 ⟨rfl, hbb⟩
      go_wp2_with fail
      refine (rsub_over _ _ _ ⟨hm, hw⟩ hr).mono ?_
      rintro e w2 ⟨rfl, rfl⟩
      go_wp2
      go_ret
      exact ⟨rfl, ((Below.refl _ _).alloc (Nat.le_refl _) _).trans (hbb.mono (by simp))⟩
    · rw [if_neg h0]
      go_enter Try.func17, Try.ntmps17
      go_wp2_with fail
      refine (rleast_any _ _ _ _ _ _).mono ?_
      rintro e w1 ⟨rfl, hbb⟩
      go_wp2_with fail
      refine (rsub_over _ _ _ ⟨hm, hw⟩ hr).mono ?_
      rintro e w2 ⟨rfl, rfl⟩
      go_wp2
      go_ret
      exact ⟨rfl, ((Below.refl _ _).alloc (Nat.le_refl _) _).trans (hbb.mono (by simp))⟩
end Go.Proofs.Ytffabippjhipbaa
