/- Plain laws: a pattern that may be, with one thing of it out of its rule: which rule is told. -/
import Derived.Test.YtidddeobachjgaaPlV
namespace Go.Proofs.Ytidddeobachjgaa

theorem check_rule {p : List Sp} {win : Int} (hr : rightB p win = true) {r : Nat} (h1 : 1 ≤ r) (h7 : r ≤ 7) (hb : ∀ j, 1 ≤ j → j < r → broken p win j < 0) (h : 0 ≤ broken p win r) : checkF p win = ((r : Int), broken p win r, 110) := by
  simp only [checkF, hr, if_true]
  rcases checkFrom_spec p win 7 1 with ⟨-, h2⟩ | ⟨k, g1, g2, g3, g4, g5⟩
  · have := h2 r h1 (by omega); omega
  · have : k = r := by
      rcases Nat.lt_trichotomy k r with hc | hc | hc
      · have := hb k g1 hc; omega
      · exact hc
      · have := g5 r h1 hc; omega
    subst this
    exact g3
theorem right_all {p : List Sp} {win : Int} : rightB p win = true ↔ 0 < p.length ∧ p.length ≤ 26 ∧ numB win = true ∧ ∀ s ∈ p, s.ok = true := by
  simp only [rightB, Bool.and_eq_true, decide_eq_true_eq, List.all_eq_true, and_assoc]
theorem set_get {α : Type} {p : List α} {i j : Nat} {s t : α} (h : (p.set i s)[j]? = some t) : (j = i ∧ t = s) ∨ (j ≠ i ∧ p[j]? = some t) := by
  by_cases e : j = i
  · subst e
    have hl := (List.getElem?_eq_some_iff.1 h).1
    rw [List.length_set] at hl
    rw [List.getElem?_set_self hl] at h
    exact .inl ⟨rfl, (Option.some.inj h).symm⟩
  · rw [List.getElem?_set_ne (Ne.symm e)] at h
    exact .inr ⟨e, h⟩
theorem stepAt_some {p : List Sp} {j : Nat} {s : Sp} (h : p[j]? = some s) : stepAt p j = s := by simp [stepAt, h]
theorem stepAt_set {β : Type} (f : Sp → β) {p : List Sp} {i : Nat} {s s' : Sp} (hs : p[i]? = some s) (hf : f s' = f s) (j : Nat) : f (stepAt (p.set i s') j) = f (stepAt p j) := by
  by_cases e : j = i
  · subst e
    have hl := (List.getElem?_eq_some_iff.1 hs).1
    rw [stepAt_some (List.getElem?_set_self hl), stepAt_some hs, hf]
  · simp only [stepAt, List.getD_eq_getElem?_getD, List.getElem?_set_ne (Ne.symm e)]
theorem stepAt_app {p q : List Sp} {j : Nat} (h : j < p.length) : stepAt (p ++ q) j = stepAt p j := by
  simp only [stepAt, List.getD_eq_getElem?_getD, List.getElem?_append_left h]

structure Kept4 (p : List Sp) (win : Int) : Prop where
  len : 0 < p.length ∧ p.length ≤ 6
  right : rightB p win = true
  win : win ≤ 1073741824
  two : rule2 p = true
  three : ∀ k s, p[k]? = some s → rule3 p k s = true
  four : ∀ k s, p[k]? = some s → rule4 p k s = true
  five : ∀ k s, p[k]? = some s → rule5 p k s = true
  six : longF p ≤ 4
  seven : ∀ k s, p[k]? = some s → rule7 p k s = true
theorem may_kept {p : List Sp} {win : Int} (h : mayB p win = true) : Kept4 p win := by
  obtain ⟨hr, hb⟩ := may_rules h
  have r1 : rule1 p win = true := whole_true (by have := hb 1 (by omega) (by omega); simpa [broken] using this)
  have r2 : rule2 p = true := whole_true (by have := hb 2 (by omega) (by omega); simpa [broken] using this)
  have r6 : rule6 p = true := whole_true (by have := hb 6 (by omega) (by omega); simpa [broken] using this)
  have r3 := first_all (f := rule3 p) (i := 0) (p := p) (by have := hb 3 (by omega) (by omega); simpa [broken] using this)
  have r4 := first_all (f := rule4 p) (i := 0) (p := p) (by have := hb 4 (by omega) (by omega); simpa [broken] using this)
  have r5 := first_all (f := rule5 p) (i := 0) (p := p) (by have := hb 5 (by omega) (by omega); simpa [broken] using this)
  have r7 := first_all (f := rule7 p) (i := 0) (p := p) (by have := hb 7 (by omega) (by omega); simpa [broken] using this)
  simp only [Nat.zero_add] at r3 r4 r5 r7
  simp only [rule1, decide_eq_true_eq] at r1
  simp only [rule6, decide_eq_true_eq] at r6
  exact ⟨⟨(right_all.1 hr).1, r1.1⟩, hr, r1.2, r2, r3, r4, r5, r6, r7⟩
theorem b1 {p : List Sp} {win : Int} (h : p.length ≤ 6 ∧ win ≤ 1073741824) : broken p win 1 < 0 := by simp [broken, rule1, h, whole]
theorem b1' {p : List Sp} {win : Int} (h : 6 < p.length ∨ 1073741824 < win) : broken p win 1 = 0 := by
  have : ¬ (p.length ≤ 6 ∧ win ≤ 1073741824) := by omega
  simp [broken, rule1, this, whole]
theorem b2 {p : List Sp} {win : Int} (h : rule2 p = true) : broken p win 2 < 0 := by simp [broken, h, whole]
theorem b2' {p : List Sp} {win : Int} (h : rule2 p = false) : broken p win 2 = 0 := by simp [broken, h, whole]
theorem b3 {p : List Sp} {win : Int} (h : ∀ k s, p[k]? = some s → rule3 p k s = true) : broken p win 3 < 0 := by
  have := first_ok (f := rule3 p) (p := p) (i := 0) (by simpa using h)
  simp [broken, this]
theorem b4 {p : List Sp} {win : Int} (h : ∀ k s, p[k]? = some s → rule4 p k s = true) : broken p win 4 < 0 := by
  have := first_ok (f := rule4 p) (p := p) (i := 0) (by simpa using h)
  simp [broken, this]
theorem b5 {p : List Sp} {win : Int} (h : ∀ k s, p[k]? = some s → rule5 p k s = true) : broken p win 5 < 0 := by
  have := first_ok (f := rule5 p) (p := p) (i := 0) (by simpa using h)
  simp [broken, this]
theorem b6 {p : List Sp} {win : Int} (h : longF p ≤ 4) : broken p win 6 < 0 := by simp [broken, rule6, h, whole]
theorem b6' {p : List Sp} {win : Int} (h : 4 < longF p) : broken p win 6 = 0 := by
  have : ¬ (longF p ≤ 4) := by omega
  simp [broken, rule6, this, whole]
theorem bfirst {p : List Sp} {f : Nat → Sp → Bool} {k : Nat} {s : Sp} (hs : p[k]? = some s) (hf : f k s = false) (hb : ∀ j t, j < k → p[j]? = some t → f j t = true) : firstFrom f 0 p = k := by
  have := first_at (f := f) (i := 0) hs (by simpa using hf) (fun j t hj ht => by simpa using hb j t hj ht)
  simpa using this
theorem upto {P : Nat → Prop} {r : Nat} (h : ∀ j, 1 ≤ j → j < r → P j) : ∀ j, 1 ≤ j → j < r → P j := h

section
variable {p : List Sp} {win : Int} {n : Int} {at_ : Nat} {s : Sp}
theorem one_1 (h : mayB p win = true) (h1 : 1 ≤ n) (h2 : n ≤ 1000) : checkF p (1073741824 + n) = (1, 0, 110) := by
  have K := may_kept h
  have hr : rightB p (1073741824 + n) = true := by
    have := right_all.1 K.right
    exact right_all.2 ⟨this.1, this.2.1, by simp [numB]; omega, this.2.2.2⟩
  have hb : broken p (1073741824 + n) 1 = 0 := b1' (by omega)
  have := check_rule hr (r := 1) (by omega) (by omega) (fun j h1 h2 => by omega) (by omega)
  rw [this, hb]; rfl
theorem one_2 (h : mayB p win = true) (hs : p[0]? = some s) : checkF (p.set 0 { s with strict := true }) win = (2, 0, 110) := by
  have K := may_kept h
  obtain ⟨g1, g2, g3, g4⟩ := right_all.1 K.right
  have hl : (p.set 0 { s with strict := true }).length = p.length := List.length_set
  have hr : rightB (p.set 0 { s with strict := true }) win = true := by
    refine right_all.2 ⟨by omega, by omega, g3, fun t ht => ?_⟩
    rcases List.mem_or_eq_of_mem_set ht with hm | rfl
    · exact g4 t hm
    · have := g4 s (List.mem_of_getElem? hs)
      exact this
  have hb : broken (p.set 0 { s with strict := true }) win 2 = 0 := b2' (by
    have hl0 := (List.getElem?_eq_some_iff.1 hs).1
    simp [rule2, stepAt_some (List.getElem?_set_self hl0)])
  have := check_rule hr (r := 2) (by omega) (by omega) (fun j h1 h2 => by
    obtain rfl : j = 1 := by omega
    exact b1 ⟨by rw [hl]; exact K.len.2, K.win⟩) (by omega)
  rw [this, hb]; rfl
theorem rule2_set {s' : Sp} (hs : p[at_]? = some s) (hn : s'.neg = s.neg) (ht : s'.strict = s.strict) : rule2 (p.set at_ s') = rule2 p := by
  simp only [rule2, stepAt_set Sp.neg hs hn, stepAt_set Sp.strict hs ht]
theorem rule4_set {s' t : Sp} (hs : p[at_]? = some s) (hn : s'.neg = s.neg) (k : Nat) : rule4 (p.set at_ s') k t = rule4 p k t := by
  simp only [rule4, stepAt_set Sp.neg hs hn]
theorem rule7_set {s' t : Sp} (hs : p[at_]? = some s) (hn : s'.neg = s.neg) (hm : s'.max = s.max) (k : Nat) : rule7 (p.set at_ s') k t = rule7 p k t := by
  have : askOk (p.set at_ s') k = askOk p k := by
    funext m
    simp only [askOk, stepAt_set Sp.neg hs hn, stepAt_set Sp.max hs hm]
  simp only [rule7, this]
theorem one_3 (h : mayB p win = true) (hs : p[at_]? = some s) (h1 : 1 ≤ n) (h2 : n ≤ 1000) : checkF (p.set at_ { s with kind := 5 + n }) win = (3, (at_ : Int), 110) := by
  have K := may_kept h
  obtain ⟨g1, g2, g3, g4⟩ := right_all.1 K.right
  have hl0 := (List.getElem?_eq_some_iff.1 hs).1
  have hl : (p.set at_ { s with kind := 5 + n }).length = p.length := List.length_set
  have hr : rightB (p.set at_ { s with kind := 5 + n }) win = true := by
    refine right_all.2 ⟨by omega, by omega, g3, fun t ht => ?_⟩
    rcases List.mem_or_eq_of_mem_set ht with hm | rfl
    · exact g4 t hm
    · have := g4 s (List.mem_of_getElem? hs)
      simp only [Sp.ok, Bool.and_eq_true] at this ⊢
      refine ⟨⟨⟨by simp [numB]; omega, this.1.1.2⟩, this.1.2⟩, this.2⟩
  have hb : broken (p.set at_ { s with kind := 5 + n }) win 3 = at_ := by
    show firstFrom (rule3 _) 0 _ = _
    refine bfirst (List.getElem?_set_self hl0) (by simp [rule3]; omega) (fun j t hj ht => ?_)
    rcases set_get ht with ⟨e, -⟩ | ⟨-, ht⟩
    · omega
    · exact K.three j t ht
  have := check_rule hr (r := 3) (by omega) (by omega) (fun j h1 h2 => by
    obtain rfl | rfl : j = 1 ∨ j = 2 := by omega
    · exact b1 ⟨by rw [hl]; exact K.len.2, K.win⟩
    · exact b2 (by rw [rule2_set hs (by rfl) (by rfl)]; exact K.two)) (by omega)
  rw [this, hb]; rfl
theorem one_5 (h : mayB p win = true) (hs : p[0]? = some s) : checkF (p.set 0 { s with max := 0 }) win = (5, 0, 110) := by
  have K := may_kept h
  have hm := may_step h hs
  have hn : s.neg = false := ((may_whole h).2.2.2.2.1 s hs).1
  obtain ⟨g1, g2, g3, g4⟩ := right_all.1 K.right
  have hl0 := (List.getElem?_eq_some_iff.1 hs).1
  have hl : (p.set 0 { s with max := 0 }).length = p.length := List.length_set
  have hr : rightB (p.set 0 { s with max := 0 }) win = true := by
    refine right_all.2 ⟨by omega, by omega, g3, fun t ht => ?_⟩
    rcases List.mem_or_eq_of_mem_set ht with hm | rfl
    · exact g4 t hm
    · have := g4 s (List.mem_of_getElem? hs)
      simp only [Sp.ok, Bool.and_eq_true] at this ⊢
      exact ⟨⟨⟨this.1.1.1, this.1.1.2⟩, by simp [numB]⟩, this.2⟩
  have hb : broken (p.set 0 { s with max := 0 }) win 5 = 0 := by
    show firstFrom (rule5 _) 0 _ = _
    have := hm.m1
    exact bfirst (k := 0) (List.getElem?_set_self hl0) (by simp [rule5, hn]) (fun j t hj ht => by omega)
  have := check_rule hr (r := 5) (by omega) (by omega) (fun j h1 h2 => by
    obtain rfl | rfl | rfl | rfl : j = 1 ∨ j = 2 ∨ j = 3 ∨ j = 4 := by omega
    · exact b1 ⟨by rw [hl]; exact K.len.2, K.win⟩
    · exact b2 (by rw [rule2_set hs (by rfl) (by rfl)]; exact K.two)
    · refine b3 fun k t ht => ?_
      rcases set_get ht with ⟨rfl, rfl⟩ | ⟨-, ht⟩
      · exact K.three 0 s hs
      · exact K.three k t ht
    · refine b4 fun k t ht => ?_
      rw [rule4_set hs (by rfl)]
      rcases set_get ht with ⟨rfl, rfl⟩ | ⟨-, ht⟩
      · have := K.four 0 s hs
        simp only [rule4, hn]
        simp
      · exact K.four k t ht) (by omega)
  rw [this, hb]; rfl
theorem one_7 (h : mayB p win = true) (hs : p[at_]? = some s) : checkF (p.set at_ { s with cmps := s.cmps ++ [⟨3, ⟨2, 0, at_ + 1, 0⟩, ⟨0, 0, 0, 0⟩⟩] }) win = (7, (at_ : Int), 110) := by
  have K := may_kept h
  obtain ⟨g1, g2, g3, g4⟩ := right_all.1 K.right
  have hl0 := (List.getElem?_eq_some_iff.1 hs).1
  have hl : (p.set at_ { s with cmps := s.cmps ++ [⟨3, ⟨2, 0, at_ + 1, 0⟩, ⟨0, 0, 0, 0⟩⟩] }).length = p.length := List.length_set
  have hl6 := K.len.2
  have hr : rightB (p.set at_ { s with cmps := s.cmps ++ [⟨3, ⟨2, 0, at_ + 1, 0⟩, ⟨0, 0, 0, 0⟩⟩] }) win = true := by
    refine right_all.2 ⟨by omega, by omega, g3, fun t ht => ?_⟩
    rcases List.mem_or_eq_of_mem_set ht with hm | rfl
    · exact g4 t hm
    · have := g4 s (List.mem_of_getElem? hs)
      simp only [Sp.ok, Bool.and_eq_true] at this ⊢
      refine ⟨this.1, ?_⟩
      rw [List.all_append, this.2]
      simp [Cm.ok, Tm.ok]
      omega
  have hb : broken (p.set at_ { s with cmps := s.cmps ++ [⟨3, ⟨2, 0, at_ + 1, 0⟩, ⟨0, 0, 0, 0⟩⟩] }) win 7 = at_ := by
    show firstFrom (rule7 _) 0 _ = _
    refine bfirst (List.getElem?_set_self hl0) ?_ (fun j t hj ht => ?_)
    · rw [rule7_set hs (by rfl) (by rfl)]
      simp only [rule7, Bool.and_eq_false_iff, List.all_eq_false]
      right
      refine ⟨(at_ : Int) + 1, mem_asked.2 (List.mem_flatMap.2 ⟨⟨3, ⟨2, 0, at_ + 1, 0⟩, ⟨0, 0, 0, 0⟩⟩, by simp, ?_⟩), ?_⟩
      · simp [Cm.names, Tm.names, Tm.two]
      · have e1 : ¬ ((at_ : Int) + 1 = at_) := by omega
        have e2 : ¬ ((at_ : Int) + 1 < at_) := by omega
        simp [askOk, e1, e2]
    · rw [rule7_set hs (by rfl) (by rfl)]
      rcases set_get ht with ⟨e, -⟩ | ⟨-, ht⟩
      · omega
      · exact K.seven j t ht
  have hlong : longF (p.set at_ { s with cmps := s.cmps ++ [⟨3, ⟨2, 0, at_ + 1, 0⟩, ⟨0, 0, 0, 0⟩⟩] }) = longF p := by
    simp only [longF]
    congr 1
    apply List.ext_getElem?
    intro j
    rw [List.getElem?_map, List.getElem?_map]
    by_cases e : j = at_
    · subst e
      rw [List.getElem?_set_self hl0, hs]; rfl
    · rw [List.getElem?_set_ne (Ne.symm e)]
  have := check_rule hr (r := 7) (by omega) (by omega) (fun j h1 h2 => by
    obtain rfl | rfl | rfl | rfl | rfl | rfl : j = 1 ∨ j = 2 ∨ j = 3 ∨ j = 4 ∨ j = 5 ∨ j = 6 := by omega
    · exact b1 ⟨by rw [hl]; exact K.len.2, K.win⟩
    · exact b2 (by rw [rule2_set hs (by rfl) (by rfl)]; exact K.two)
    · refine b3 fun k t ht => ?_
      rcases set_get ht with ⟨rfl, rfl⟩ | ⟨-, ht⟩
      · exact K.three k s hs
      · exact K.three k t ht
    · refine b4 fun k t ht => ?_
      rw [rule4_set hs (by rfl)]
      rcases set_get ht with ⟨rfl, rfl⟩ | ⟨-, ht⟩
      · exact K.four k s hs
      · exact K.four k t ht
    · refine b5 fun k t ht => ?_
      rcases set_get ht with ⟨rfl, rfl⟩ | ⟨-, ht⟩
      · exact K.five k s hs
      · exact K.five k t ht
    · exact b6 (by rw [hlong]; exact K.six)) (by omega)
  rw [this, hb]; rfl
/-- Positive or negative steps more at the end. -/
theorem rule2_app {q : List Sp} (h0 : 0 < p.length) : rule2 (p ++ q) = rule2 p := by simp only [rule2, stepAt_app h0]
theorem rule4_app {q : List Sp} {t : Sp} {k : Nat} (hk : k < p.length) : rule4 (p ++ q) k t = rule4 p k t := by
  simp only [rule4, stepAt_app (show k - 1 < p.length by omega)]
theorem app_get {q : List Sp} {k : Nat} {t : Sp} (h : (p ++ q)[k]? = some t) : (k < p.length ∧ p[k]? = some t) ∨ (p.length ≤ k ∧ q[k - p.length]? = some t) := by
  rcases Nat.lt_or_ge k p.length with hk | hk
  · rw [List.getElem?_append_left hk] at h; exact .inl ⟨hk, h⟩
  · rw [List.getElem?_append_right hk] at h; exact .inr ⟨hk, h⟩
theorem long_app (p q : List Sp) : longF (p ++ q) = longF p + longF q := by
  simp only [longF, List.map_append, List.sum_append_int]
theorem one_4 (h : mayB p win = true) (h1 : 1 ≤ n) (h2 : n ≤ 1000) : checkF (p ++ [⟨true, 0, 1, 1 + n, false, []⟩]) win = if p.length = 6 then (1, 0, 110) else (4, (p.length : Int), 110) := by
  have K := may_kept h
  obtain ⟨g1, g2, g3, g4⟩ := right_all.1 K.right
  have hl : (p ++ [(⟨true, 0, 1, 1 + n, false, []⟩ : Sp)]).length = p.length + 1 := by simp
  have hl6 := K.len.2
  have hr : rightB (p ++ [⟨true, 0, 1, 1 + n, false, []⟩]) win = true := by
    refine right_all.2 ⟨by omega, by omega, g3, fun t ht => ?_⟩
    rcases List.mem_append.1 ht with hm | hm
    · exact g4 t hm
    · rw [List.mem_singleton.1 hm]
      simp [Sp.ok, numB]
      omega
  by_cases e6 : p.length = 6
  · rw [if_pos e6]
    have hb : broken (p ++ [⟨true, 0, 1, 1 + n, false, []⟩]) win 1 = 0 := b1' (by omega)
    have := check_rule hr (r := 1) (by omega) (by omega) (fun j h1 h2 => by omega) (by omega)
    rw [this, hb]; rfl
  · rw [if_neg e6]
    have hb : broken (p ++ [⟨true, 0, 1, 1 + n, false, []⟩]) win 4 = p.length := by
      show firstFrom (rule4 _) 0 _ = _
      refine bfirst (s := ⟨true, 0, 1, 1 + n, false, []⟩) (by simp) (by simp [rule4]; omega) (fun j t hj ht => ?_)
      rw [rule4_app hj]
      rw [List.getElem?_append_left hj] at ht
      exact K.four j t ht
    have := check_rule hr (r := 4) (by omega) (by omega) (fun j h1 h2 => by
      obtain rfl | rfl | rfl : j = 1 ∨ j = 2 ∨ j = 3 := by omega
      · exact b1 ⟨by omega, K.win⟩
      · exact b2 (by rw [rule2_app g1]; exact K.two)
      · refine b3 fun k t ht => ?_
        rcases app_get ht with ⟨-, ht⟩ | ⟨-, ht⟩
        · exact K.three k t ht
        · have := List.mem_of_getElem? ht
          rw [List.mem_singleton.1 this]
          rfl) (by omega)
    rw [this, hb]; rfl
theorem long_rep (m : Nat) : longF (List.replicate m (⟨false, 0, 1, 3, false, []⟩ : Sp)) = 3 * m := by
  induction m with
  | zero => rfl
  | succ m ih =>
    rw [List.replicate_succ]
    simp only [longF, List.map_cons, List.sum_cons] at ih ⊢
    rw [ih]
    simp
    omega
theorem one_6 (h : mayB p win = true) (h4 : p.length ≤ 4) : checkF (p ++ List.replicate (6 - p.length) ⟨false, 0, 1, 3, false, []⟩) win = (6, 0, 110) := by
  have K := may_kept h
  obtain ⟨g1, g2, g3, g4⟩ := right_all.1 K.right
  have hl : (p ++ List.replicate (6 - p.length) (⟨false, 0, 1, 3, false, []⟩ : Sp)).length = 6 := by simp; omega
  have hrep : ∀ {k : Nat} {t : Sp}, (List.replicate (6 - p.length) (⟨false, 0, 1, 3, false, []⟩ : Sp))[k]? = some t → t = ⟨false, 0, 1, 3, false, []⟩ := fun ht =>
    List.eq_of_mem_replicate (List.mem_of_getElem? ht)
  have hr : rightB (p ++ List.replicate (6 - p.length) ⟨false, 0, 1, 3, false, []⟩) win = true := by
    refine right_all.2 ⟨by omega, by omega, g3, fun t ht => ?_⟩
    rcases List.mem_append.1 ht with hm | hm
    · exact g4 t hm
    · rw [List.eq_of_mem_replicate hm]
      simp [Sp.ok, numB]
  have hlong : 4 < longF (p ++ List.replicate (6 - p.length) ⟨false, 0, 1, 3, false, []⟩) := by
    rw [long_app, long_rep]
    have := (long_pos (p := p) (fun s hs => by
      obtain ⟨k, hk, rfl⟩ := List.mem_iff_getElem.1 hs
      have h1 := may_step h (List.getElem?_eq_getElem hk)
      have h2 := h1.m1
      have h3 := h1.m2
      omega)).1 p.length
    rw [List.take_of_length_le (Nat.le_refl _)] at this
    omega
  have hb := b6' (win := win) hlong
  have := check_rule hr (r := 6) (by omega) (by omega) (fun j h1 h2 => by
    obtain rfl | rfl | rfl | rfl | rfl : j = 1 ∨ j = 2 ∨ j = 3 ∨ j = 4 ∨ j = 5 := by omega
    · exact b1 ⟨by omega, K.win⟩
    · exact b2 (by rw [rule2_app g1]; exact K.two)
    · refine b3 fun k t ht => ?_
      rcases app_get ht with ⟨-, ht⟩ | ⟨-, ht⟩
      · exact K.three k t ht
      · rw [hrep ht]; rfl
    · refine b4 fun k t ht => ?_
      rcases app_get ht with ⟨hk, ht⟩ | ⟨-, ht⟩
      · rw [rule4_app hk]; exact K.four k t ht
      · rw [hrep ht]; simp [rule4]
    · refine b5 fun k t ht => ?_
      rcases app_get ht with ⟨-, ht⟩ | ⟨-, ht⟩
      · exact K.five k t ht
      · rw [hrep ht]; rfl) (by omega)
  rw [this, hb]; rfl
end
end Go.Proofs.Ytidddeobachjgaa
