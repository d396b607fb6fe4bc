/- The first of the steps that is not so: what the layer of checks' 'first' makes of a question. -/
import Derived.Test.YtidddeobachjgaaChC
import Derived.Test.YtidddeobachjgaaLibD
namespace Go.Proofs.Ytidddeobachjgaa
open Go.RowKit Go.Shelf
attribute [local go_sem] Oper.semAt_some

theorem makes_first (Bp fn : Nat) (caps : Array Value) (w : World) : Calls Try.prog 66 #[.func (.func fn) #[] caps, .pointer (some ⟨Bp, 0, none⟩)] w fun e w' =>
    e = .returned (.func (.func 67) #[] #[.pointer (some ⟨Bp, 0, none⟩), .pointer (some ⟨w.heap.size, 0, none⟩)]) ∧ w' = w.alloc (.cells #[.func (.func fn) #[] caps] 81) := by
  go_enter Try.func66, Try.ntmps66
  go_wp2
  go_ret
  exact ⟨rfl, rfl⟩

set_option maxRecDepth 100000 in
set_option maxHeartbeats 2000000 in
theorem first3_any (Bp Bs  : Nat) (p : List Sp) (f : Nat → Sp → Bool) (win : Int) (sv : Value) (w : World)
    (hbp : Blk w Bp 24 #[sv, .int .i64 win]) (hbs : Blk w Bs 81 #[.func (.func 72) #[] #[]]) (hrd : RdS w w.heap.size sv p)
    (hcall : ∀ (k : Nat) (s : Sp) (cv : Value) (w1 : World), Below w.heap.size w w1 → p[k]? = some s → RdC w1 w1.heap.size cv s.cmps → Calls Try.prog 72 #[.int .i64 k, spV s cv] w1 fun e w' => e = .returned (.bool (f k s)) ∧ Below w1.heap.size w1 w') :
    Calls Try.prog 67 #[.pointer (some ⟨Bp, 0, none⟩), .pointer (some ⟨Bs, 0, none⟩)] w fun e w' => e = .returned (.int .i64 (firstFrom f 0 p)) ∧ Below w.heap.size w w' := by
  obtain ⟨A, cap, hsv⟩ : ∃ A cap, sv = .slice A p.length cap := by
    obtain ⟨A, cap, b, off, e, -⟩ := hrd
    exact ⟨A, cap, e⟩
  subst hsv
  have hc0 : w.cell? ⟨Bp, 0, none⟩ = some (.slice A p.length cap) := hbp.cell 0
  have hc1 : w.cell? ⟨Bp, 1, none⟩ = some (.int .i64 win) := hbp.cell 1
  have hs0 : w.cell? ⟨Bs, 0, none⟩ = some (.func (.func 72) #[] #[]) := hbs.one
  have hpl := hbp.lt
  have hsl := hbs.lt
  refine (callsIn_wide (n := 3)).1 ?_
  refine callsIn_of_wp_marks Try.func67 rfl trivial ?_ rfl
  simp only [Try.ntmps67, List.size_toArray, List.length_cons, List.length_nil, Nat.reduceAdd, Nat.reduceSub, Array.replicate_succ, Array.replicate_zero, List.push_toArray, List.append_toArray, List.nil_append, List.cons_append]
  have hrdh := hide hrd
  have hCh := hide hcall
  clear hrd hcall
  gi_wp2_with (refine ⟨trivial, ?_⟩; gi_at_call 68; refine (callsIn_wide.2 (steps_any _ _ _ _ _)).mono ?_; rintro e w' ⟨rfl, rfl⟩)
  obtain ⟨W0, hW0⟩ : ∃ W0, ((w.alloc (.cells #[.int .i64 0] 3)).alloc (.cells #[.slice A p.length cap, .int .i64 win] 24)).alloc (.cells #[.func (.func 72) #[] #[]] 81) = W0 := ⟨_, rfl⟩
  rw [hW0]
  have hR : Blk W0 w.heap.size 3 #[.int .i64 0] := by rw [← hW0]; exact ((Blk.new_ (by simp) _ _).alloc _).alloc _
  have hP : Blk W0 (w.heap.size + 1) 24 #[.slice A p.length cap, .int .i64 win] := by rw [← hW0]; exact (Blk.new_ (by simp) _ _).alloc _
  have hF : Blk W0 (w.heap.size + 2) 81 #[.func (.func 72) #[] #[]] := by rw [← hW0]; exact Blk.new_ (by simp) _ _
  have hB : Below w.heap.size w W0 := by rw [← hW0]; exact (((Below.refl _ w).alloc (Nat.le_refl _) _).alloc (by simp) _).alloc (by simp; omega) _
  have hz : W0.heap.size = w.heap.size + 3 := by rw [← hW0]; simp
  have hrd0 : RdS W0 W0.heap.size (.slice A p.length cap) p := RdS.below hrdh.out hB (by omega)
  clear hW0
  have hstops : SeqStopsK Fence.wide 2 Try.prog 92 #[.pointer (some ⟨w.heap.size + 1, 0, none⟩), .pointer (some ⟨w.heap.size + 2, 0, none⟩)] (fun x : Int => #[Value.int .i64 x]) (Below W0.heap.size) (fun ys => ys = badFrom f 0 p) (fun pre => pre <+: badFrom f 0 p) (badFrom f 0 p).length W0 :=
    fun l J Jx W hW hJ _ hY h0 => steps3_in 2 (by omega) l (w.heap.size + 1) (w.heap.size + 2)  W0.heap.size p f win (.slice A p.length cap) J Jx W hJ hW.size (hP.below hW hP.lt) (hF.below hW hF.lt) hF.lt (RdS.below hrd0 hW (Nat.le_refl _))
      (fun k s cv w1 h1 _ hk hr => hCh.out k s cv w1 ((hB.trans (hW.mono (by omega))).trans (h1.mono (by omega))) hk hr) hY h0
  refine' rf_law (gf := 92) (lb := #[.pointer (some ⟨w.heap.size + 1, 0, none⟩), .pointer (some ⟨w.heap.size + 2, 0, none⟩)]) rfl (enters_of Try.func92 (by kernel_rfl) rfl) hstops
    belowK_t (belowK_b (Nat.le_refl _)) (fun _ => rfl)
    (fun pre W => pre = [] ∧ Blk W w.heap.size 3 #[.int .i64 0] ∧ Below w.heap.size w W)
    (fun c pre W => c = .ret ∧ (∃ x, pre = [x] ∧ Blk W w.heap.size 3 #[.int .i64 x]) ∧ Below w.heap.size w W)
    (fun pre W W' h k => ⟨h.1, h.2.1.kept k, h.2.2.trans (k.below.mono (by omega))⟩)
    (fun c pre W W' h k => ⟨h.1, h.2.1.imp fun x hx => ⟨hx.1, hx.2.kept k⟩, h.2.2.trans (k.below.mono (by omega))⟩)
    ⟨rfl, hR, hB⟩ _ ?assign ?body ?done ?stop
  case assign =>
    intro l x W K hK
    gi_wp2
    exact hK
  case body =>
    rintro l pre x W hW ⟨rfl, hr, hb⟩ _
    have hrf := hr.frozen 0
    have hrc := hr.one
    gi_wp2
    exact ⟨keepsFrom_set _ _ _ _, rfl, ⟨x, rfl, hr.set_ 0 _⟩, hb.setCell (p := ⟨w.heap.size, 0, none⟩) (by simp) _⟩
  case done =>
    rintro D xs W hD rfl ⟨hp, hr, hb⟩ hK
    have hv := first_nil hp
    have HV := hide hv
    clear hp hv
    have hrf := hr.frozen 0
    have hrc := hr.one
    gi_wp2
    have hK' : (W.setCell ⟨w.heap.size, 0, none⟩ (.int .i64 (-1))).heap[D]? = some (.deferred (some [])) := (Below.heap_setCell _ _ _ _ (by simp; omega)).trans hK
    have hr2 := (hr.set_ 0 (.int .i64 (-1))).putObj (l := D) (o' := .deferred none) hK' rfl
    have hrc2 := hr2.one
    refine rf_ret (v := .int .i64 (-1)) rfl hK' (by simp [results, Try.f67, go_sem, hrc2]) ⟨by rw [HV.out], ?_⟩
    exact Below.putD (hb.setCell (p := ⟨w.heap.size, 0, none⟩) (by simp) _) (by have := hb.size; simp [World.setCell]; omega) (by omega) _
  case stop =>
    rintro D c pre W hD hpre ⟨rfl, ⟨x, rfl, hr⟩, hb⟩ hK
    obtain ⟨rest, hrest⟩ := hpre
    have hv := first_cons hrest.symm
    have HV := hide hv
    clear hrest hv
    gi_wp2
    have hrc2 := (hr.putObj (l := D) (o' := .deferred none) hK rfl).one
    exact rf_ret (v := .int .i64 x) rfl hK (by simp [results, Try.f67, go_sem, hrc2]) ⟨by rw [HV.out], Below.putD hb hb.size (by omega) _⟩
set_option maxRecDepth 100000 in
set_option maxHeartbeats 2000000 in
theorem first4_any (Bp Bs B : Nat) (p : List Sp) (f : Nat → Sp → Bool) (win : Int) (sv : Value) (w : World)
    (hbp : Blk w Bp 24 #[sv, .int .i64 win]) (hbs : Blk w Bs 81 #[.func (.func 73) #[] #[.pointer (some ⟨B, 0, none⟩)]]) (hrd : RdS w w.heap.size sv p)
    (hcall : ∀ (k : Nat) (s : Sp) (cv : Value) (w1 : World), Below w.heap.size w w1 → p[k]? = some s → RdC w1 w1.heap.size cv s.cmps → Calls Try.prog 73 #[.int .i64 k, spV s cv, .pointer (some ⟨B, 0, none⟩)] w1 fun e w' => e = .returned (.bool (f k s)) ∧ Below w1.heap.size w1 w') :
    Calls Try.prog 67 #[.pointer (some ⟨Bp, 0, none⟩), .pointer (some ⟨Bs, 0, none⟩)] w fun e w' => e = .returned (.int .i64 (firstFrom f 0 p)) ∧ Below w.heap.size w w' := by
  obtain ⟨A, cap, hsv⟩ : ∃ A cap, sv = .slice A p.length cap := by
    obtain ⟨A, cap, b, off, e, -⟩ := hrd
    exact ⟨A, cap, e⟩
  subst hsv
  have hc0 : w.cell? ⟨Bp, 0, none⟩ = some (.slice A p.length cap) := hbp.cell 0
  have hc1 : w.cell? ⟨Bp, 1, none⟩ = some (.int .i64 win) := hbp.cell 1
  have hs0 : w.cell? ⟨Bs, 0, none⟩ = some (.func (.func 73) #[] #[.pointer (some ⟨B, 0, none⟩)]) := hbs.one
  have hpl := hbp.lt
  have hsl := hbs.lt
  refine (callsIn_wide (n := 3)).1 ?_
  refine callsIn_of_wp_marks Try.func67 rfl trivial ?_ rfl
  simp only [Try.ntmps67, List.size_toArray, List.length_cons, List.length_nil, Nat.reduceAdd, Nat.reduceSub, Array.replicate_succ, Array.replicate_zero, List.push_toArray, List.append_toArray, List.nil_append, List.cons_append]
  have hrdh := hide hrd
  have hCh := hide hcall
  clear hrd hcall
  gi_wp2_with (refine ⟨trivial, ?_⟩; gi_at_call 68; refine (callsIn_wide.2 (steps_any _ _ _ _ _)).mono ?_; rintro e w' ⟨rfl, rfl⟩)
  obtain ⟨W0, hW0⟩ : ∃ W0, ((w.alloc (.cells #[.int .i64 0] 3)).alloc (.cells #[.slice A p.length cap, .int .i64 win] 24)).alloc (.cells #[.func (.func 73) #[] #[.pointer (some ⟨B, 0, none⟩)]] 81) = W0 := ⟨_, rfl⟩
  rw [hW0]
  have hR : Blk W0 w.heap.size 3 #[.int .i64 0] := by rw [← hW0]; exact ((Blk.new_ (by simp) _ _).alloc _).alloc _
  have hP : Blk W0 (w.heap.size + 1) 24 #[.slice A p.length cap, .int .i64 win] := by rw [← hW0]; exact (Blk.new_ (by simp) _ _).alloc _
  have hF : Blk W0 (w.heap.size + 2) 81 #[.func (.func 73) #[] #[.pointer (some ⟨B, 0, none⟩)]] := by rw [← hW0]; exact Blk.new_ (by simp) _ _
  have hB : Below w.heap.size w W0 := by rw [← hW0]; exact (((Below.refl _ w).alloc (Nat.le_refl _) _).alloc (by simp) _).alloc (by simp; omega) _
  have hz : W0.heap.size = w.heap.size + 3 := by rw [← hW0]; simp
  have hrd0 : RdS W0 W0.heap.size (.slice A p.length cap) p := RdS.below hrdh.out hB (by omega)
  clear hW0
  have hstops : SeqStopsK Fence.wide 2 Try.prog 92 #[.pointer (some ⟨w.heap.size + 1, 0, none⟩), .pointer (some ⟨w.heap.size + 2, 0, none⟩)] (fun x : Int => #[Value.int .i64 x]) (Below W0.heap.size) (fun ys => ys = badFrom f 0 p) (fun pre => pre <+: badFrom f 0 p) (badFrom f 0 p).length W0 :=
    fun l J Jx W hW hJ _ hY h0 => steps4_in 2 (by omega) l (w.heap.size + 1) (w.heap.size + 2) B W0.heap.size p f win (.slice A p.length cap) J Jx W hJ hW.size (hP.below hW hP.lt) (hF.below hW hF.lt) hF.lt (RdS.below hrd0 hW (Nat.le_refl _))
      (fun k s cv w1 h1 _ hk hr => hCh.out k s cv w1 ((hB.trans (hW.mono (by omega))).trans (h1.mono (by omega))) hk hr) hY h0
  refine' rf_law (gf := 92) (lb := #[.pointer (some ⟨w.heap.size + 1, 0, none⟩), .pointer (some ⟨w.heap.size + 2, 0, none⟩)]) rfl (enters_of Try.func92 (by kernel_rfl) rfl) hstops
    belowK_t (belowK_b (Nat.le_refl _)) (fun _ => rfl)
    (fun pre W => pre = [] ∧ Blk W w.heap.size 3 #[.int .i64 0] ∧ Below w.heap.size w W)
    (fun c pre W => c = .ret ∧ (∃ x, pre = [x] ∧ Blk W w.heap.size 3 #[.int .i64 x]) ∧ Below w.heap.size w W)
    (fun pre W W' h k => ⟨h.1, h.2.1.kept k, h.2.2.trans (k.below.mono (by omega))⟩)
    (fun c pre W W' h k => ⟨h.1, h.2.1.imp fun x hx => ⟨hx.1, hx.2.kept k⟩, h.2.2.trans (k.below.mono (by omega))⟩)
    ⟨rfl, hR, hB⟩ _ ?assign ?body ?done ?stop
  case assign =>
    intro l x W K hK
    gi_wp2
    exact hK
  case body =>
    rintro l pre x W hW ⟨rfl, hr, hb⟩ _
    have hrf := hr.frozen 0
    have hrc := hr.one
    gi_wp2
    exact ⟨keepsFrom_set _ _ _ _, rfl, ⟨x, rfl, hr.set_ 0 _⟩, hb.setCell (p := ⟨w.heap.size, 0, none⟩) (by simp) _⟩
  case done =>
    rintro D xs W hD rfl ⟨hp, hr, hb⟩ hK
    have hv := first_nil hp
    have HV := hide hv
    clear hp hv
    have hrf := hr.frozen 0
    have hrc := hr.one
    gi_wp2
    have hK' : (W.setCell ⟨w.heap.size, 0, none⟩ (.int .i64 (-1))).heap[D]? = some (.deferred (some [])) := (Below.heap_setCell _ _ _ _ (by simp; omega)).trans hK
    have hr2 := (hr.set_ 0 (.int .i64 (-1))).putObj (l := D) (o' := .deferred none) hK' rfl
    have hrc2 := hr2.one
    refine rf_ret (v := .int .i64 (-1)) rfl hK' (by simp [results, Try.f67, go_sem, hrc2]) ⟨by rw [HV.out], ?_⟩
    exact Below.putD (hb.setCell (p := ⟨w.heap.size, 0, none⟩) (by simp) _) (by have := hb.size; simp [World.setCell]; omega) (by omega) _
  case stop =>
    rintro D c pre W hD hpre ⟨rfl, ⟨x, rfl, hr⟩, hb⟩ hK
    obtain ⟨rest, hrest⟩ := hpre
    have hv := first_cons hrest.symm
    have HV := hide hv
    clear hrest hv
    gi_wp2
    have hrc2 := (hr.putObj (l := D) (o' := .deferred none) hK rfl).one
    exact rf_ret (v := .int .i64 x) rfl hK (by simp [results, Try.f67, go_sem, hrc2]) ⟨by rw [HV.out], Below.putD hb hb.size (by omega) _⟩
set_option maxRecDepth 100000 in
set_option maxHeartbeats 2000000 in
theorem first5_any (Bp Bs  : Nat) (p : List Sp) (f : Nat → Sp → Bool) (win : Int) (sv : Value) (w : World)
    (hbp : Blk w Bp 24 #[sv, .int .i64 win]) (hbs : Blk w Bs 81 #[.func (.func 74) #[] #[]]) (hrd : RdS w w.heap.size sv p)
    (hcall : ∀ (k : Nat) (s : Sp) (cv : Value) (w1 : World), Below w.heap.size w w1 → p[k]? = some s → RdC w1 w1.heap.size cv s.cmps → Calls Try.prog 74 #[.int .i64 k, spV s cv] w1 fun e w' => e = .returned (.bool (f k s)) ∧ Below w1.heap.size w1 w') :
    Calls Try.prog 67 #[.pointer (some ⟨Bp, 0, none⟩), .pointer (some ⟨Bs, 0, none⟩)] w fun e w' => e = .returned (.int .i64 (firstFrom f 0 p)) ∧ Below w.heap.size w w' := by
  obtain ⟨A, cap, hsv⟩ : ∃ A cap, sv = .slice A p.length cap := by
    obtain ⟨A, cap, b, off, e, -⟩ := hrd
    exact ⟨A, cap, e⟩
  subst hsv
  have hc0 : w.cell? ⟨Bp, 0, none⟩ = some (.slice A p.length cap) := hbp.cell 0
  have hc1 : w.cell? ⟨Bp, 1, none⟩ = some (.int .i64 win) := hbp.cell 1
  have hs0 : w.cell? ⟨Bs, 0, none⟩ = some (.func (.func 74) #[] #[]) := hbs.one
  have hpl := hbp.lt
  have hsl := hbs.lt
  refine (callsIn_wide (n := 3)).1 ?_
  refine callsIn_of_wp_marks Try.func67 rfl trivial ?_ rfl
  simp only [Try.ntmps67, List.size_toArray, List.length_cons, List.length_nil, Nat.reduceAdd, Nat.reduceSub, Array.replicate_succ, Array.replicate_zero, List.push_toArray, List.append_toArray, List.nil_append, List.cons_append]
  have hrdh := hide hrd
  have hCh := hide hcall
  clear hrd hcall
  gi_wp2_with (refine ⟨trivial, ?_⟩; gi_at_call 68; refine (callsIn_wide.2 (steps_any _ _ _ _ _)).mono ?_; rintro e w' ⟨rfl, rfl⟩)
  obtain ⟨W0, hW0⟩ : ∃ W0, ((w.alloc (.cells #[.int .i64 0] 3)).alloc (.cells #[.slice A p.length cap, .int .i64 win] 24)).alloc (.cells #[.func (.func 74) #[] #[]] 81) = W0 := ⟨_, rfl⟩
  rw [hW0]
  have hR : Blk W0 w.heap.size 3 #[.int .i64 0] := by rw [← hW0]; exact ((Blk.new_ (by simp) _ _).alloc _).alloc _
  have hP : Blk W0 (w.heap.size + 1) 24 #[.slice A p.length cap, .int .i64 win] := by rw [← hW0]; exact (Blk.new_ (by simp) _ _).alloc _
  have hF : Blk W0 (w.heap.size + 2) 81 #[.func (.func 74) #[] #[]] := by rw [← hW0]; exact Blk.new_ (by simp) _ _
  have hB : Below w.heap.size w W0 := by rw [← hW0]; exact (((Below.refl _ w).alloc (Nat.le_refl _) _).alloc (by simp) _).alloc (by simp; omega) _
  have hz : W0.heap.size = w.heap.size + 3 := by rw [← hW0]; simp
  have hrd0 : RdS W0 W0.heap.size (.slice A p.length cap) p := RdS.below hrdh.out hB (by omega)
  clear hW0
  have hstops : SeqStopsK Fence.wide 2 Try.prog 92 #[.pointer (some ⟨w.heap.size + 1, 0, none⟩), .pointer (some ⟨w.heap.size + 2, 0, none⟩)] (fun x : Int => #[Value.int .i64 x]) (Below W0.heap.size) (fun ys => ys = badFrom f 0 p) (fun pre => pre <+: badFrom f 0 p) (badFrom f 0 p).length W0 :=
    fun l J Jx W hW hJ _ hY h0 => steps5_in 2 (by omega) l (w.heap.size + 1) (w.heap.size + 2)  W0.heap.size p f win (.slice A p.length cap) J Jx W hJ hW.size (hP.below hW hP.lt) (hF.below hW hF.lt) hF.lt (RdS.below hrd0 hW (Nat.le_refl _))
      (fun k s cv w1 h1 _ hk hr => hCh.out k s cv w1 ((hB.trans (hW.mono (by omega))).trans (h1.mono (by omega))) hk hr) hY h0
  refine' rf_law (gf := 92) (lb := #[.pointer (some ⟨w.heap.size + 1, 0, none⟩), .pointer (some ⟨w.heap.size + 2, 0, none⟩)]) rfl (enters_of Try.func92 (by kernel_rfl) rfl) hstops
    belowK_t (belowK_b (Nat.le_refl _)) (fun _ => rfl)
    (fun pre W => pre = [] ∧ Blk W w.heap.size 3 #[.int .i64 0] ∧ Below w.heap.size w W)
    (fun c pre W => c = .ret ∧ (∃ x, pre = [x] ∧ Blk W w.heap.size 3 #[.int .i64 x]) ∧ Below w.heap.size w W)
    (fun pre W W' h k => ⟨h.1, h.2.1.kept k, h.2.2.trans (k.below.mono (by omega))⟩)
    (fun c pre W W' h k => ⟨h.1, h.2.1.imp fun x hx => ⟨hx.1, hx.2.kept k⟩, h.2.2.trans (k.below.mono (by omega))⟩)
    ⟨rfl, hR, hB⟩ _ ?assign ?body ?done ?stop
  case assign =>
    intro l x W K hK
    gi_wp2
    exact hK
  case body =>
    rintro l pre x W hW ⟨rfl, hr, hb⟩ _
    have hrf := hr.frozen 0
    have hrc := hr.one
    gi_wp2
    exact ⟨keepsFrom_set _ _ _ _, rfl, ⟨x, rfl, hr.set_ 0 _⟩, hb.setCell (p := ⟨w.heap.size, 0, none⟩) (by simp) _⟩
  case done =>
    rintro D xs W hD rfl ⟨hp, hr, hb⟩ hK
    have hv := first_nil hp
    have HV := hide hv
    clear hp hv
    have hrf := hr.frozen 0
    have hrc := hr.one
    gi_wp2
    have hK' : (W.setCell ⟨w.heap.size, 0, none⟩ (.int .i64 (-1))).heap[D]? = some (.deferred (some [])) := (Below.heap_setCell _ _ _ _ (by simp; omega)).trans hK
    have hr2 := (hr.set_ 0 (.int .i64 (-1))).putObj (l := D) (o' := .deferred none) hK' rfl
    have hrc2 := hr2.one
    refine rf_ret (v := .int .i64 (-1)) rfl hK' (by simp [results, Try.f67, go_sem, hrc2]) ⟨by rw [HV.out], ?_⟩
    exact Below.putD (hb.setCell (p := ⟨w.heap.size, 0, none⟩) (by simp) _) (by have := hb.size; simp [World.setCell]; omega) (by omega) _
  case stop =>
    rintro D c pre W hD hpre ⟨rfl, ⟨x, rfl, hr⟩, hb⟩ hK
    obtain ⟨rest, hrest⟩ := hpre
    have hv := first_cons hrest.symm
    have HV := hide hv
    clear hrest hv
    gi_wp2
    have hrc2 := (hr.putObj (l := D) (o' := .deferred none) hK rfl).one
    exact rf_ret (v := .int .i64 x) rfl hK (by simp [results, Try.f67, go_sem, hrc2]) ⟨by rw [HV.out], Below.putD hb hb.size (by omega) _⟩
set_option maxRecDepth 100000 in
set_option maxHeartbeats 2000000 in
theorem first7_any (Bp Bs B : Nat) (p : List Sp) (f : Nat → Sp → Bool) (win : Int) (sv : Value) (w : World)
    (hbp : Blk w Bp 24 #[sv, .int .i64 win]) (hbs : Blk w Bs 81 #[.func (.func 76) #[] #[.pointer (some ⟨B, 0, none⟩)]]) (hrd : RdS w w.heap.size sv p)
    (hcall : ∀ (k : Nat) (s : Sp) (cv : Value) (w1 : World), Below w.heap.size w w1 → p[k]? = some s → RdC w1 w1.heap.size cv s.cmps → Calls Try.prog 76 #[.int .i64 k, spV s cv, .pointer (some ⟨B, 0, none⟩)] w1 fun e w' => e = .returned (.bool (f k s)) ∧ Below w1.heap.size w1 w') :
    Calls Try.prog 67 #[.pointer (some ⟨Bp, 0, none⟩), .pointer (some ⟨Bs, 0, none⟩)] w fun e w' => e = .returned (.int .i64 (firstFrom f 0 p)) ∧ Below w.heap.size w w' := by
  obtain ⟨A, cap, hsv⟩ : ∃ A cap, sv = .slice A p.length cap := by
    obtain ⟨A, cap, b, off, e, -⟩ := hrd
    exact ⟨A, cap, e⟩
  subst hsv
  have hc0 : w.cell? ⟨Bp, 0, none⟩ = some (.slice A p.length cap) := hbp.cell 0
  have hc1 : w.cell? ⟨Bp, 1, none⟩ = some (.int .i64 win) := hbp.cell 1
  have hs0 : w.cell? ⟨Bs, 0, none⟩ = some (.func (.func 76) #[] #[.pointer (some ⟨B, 0, none⟩)]) := hbs.one
  have hpl := hbp.lt
  have hsl := hbs.lt
  refine (callsIn_wide (n := 3)).1 ?_
  refine callsIn_of_wp_marks Try.func67 rfl trivial ?_ rfl
  simp only [Try.ntmps67, List.size_toArray, List.length_cons, List.length_nil, Nat.reduceAdd, Nat.reduceSub, Array.replicate_succ, Array.replicate_zero, List.push_toArray, List.append_toArray, List.nil_append, List.cons_append]
  have hrdh := hide hrd
  have hCh := hide hcall
  clear hrd hcall
  gi_wp2_with (refine ⟨trivial, ?_⟩; gi_at_call 68; refine (callsIn_wide.2 (steps_any _ _ _ _ _)).mono ?_; rintro e w' ⟨rfl, rfl⟩)
  obtain ⟨W0, hW0⟩ : ∃ W0, ((w.alloc (.cells #[.int .i64 0] 3)).alloc (.cells #[.slice A p.length cap, .int .i64 win] 24)).alloc (.cells #[.func (.func 76) #[] #[.pointer (some ⟨B, 0, none⟩)]] 81) = W0 := ⟨_, rfl⟩
  rw [hW0]
  have hR : Blk W0 w.heap.size 3 #[.int .i64 0] := by rw [← hW0]; exact ((Blk.new_ (by simp) _ _).alloc _).alloc _
  have hP : Blk W0 (w.heap.size + 1) 24 #[.slice A p.length cap, .int .i64 win] := by rw [← hW0]; exact (Blk.new_ (by simp) _ _).alloc _
  have hF : Blk W0 (w.heap.size + 2) 81 #[.func (.func 76) #[] #[.pointer (some ⟨B, 0, none⟩)]] := by rw [← hW0]; exact Blk.new_ (by simp) _ _
  have hB : Below w.heap.size w W0 := by rw [← hW0]; exact (((Below.refl _ w).alloc (Nat.le_refl _) _).alloc (by simp) _).alloc (by simp; omega) _
  have hz : W0.heap.size = w.heap.size + 3 := by rw [← hW0]; simp
  have hrd0 : RdS W0 W0.heap.size (.slice A p.length cap) p := RdS.below hrdh.out hB (by omega)
  clear hW0
  have hstops : SeqStopsK Fence.wide 2 Try.prog 92 #[.pointer (some ⟨w.heap.size + 1, 0, none⟩), .pointer (some ⟨w.heap.size + 2, 0, none⟩)] (fun x : Int => #[Value.int .i64 x]) (Below W0.heap.size) (fun ys => ys = badFrom f 0 p) (fun pre => pre <+: badFrom f 0 p) (badFrom f 0 p).length W0 :=
    fun l J Jx W hW hJ _ hY h0 => steps7_in 2 (by omega) l (w.heap.size + 1) (w.heap.size + 2) B W0.heap.size p f win (.slice A p.length cap) J Jx W hJ hW.size (hP.below hW hP.lt) (hF.below hW hF.lt) hF.lt (RdS.below hrd0 hW (Nat.le_refl _))
      (fun k s cv w1 h1 _ hk hr => hCh.out k s cv w1 ((hB.trans (hW.mono (by omega))).trans (h1.mono (by omega))) hk hr) hY h0
  refine' rf_law (gf := 92) (lb := #[.pointer (some ⟨w.heap.size + 1, 0, none⟩), .pointer (some ⟨w.heap.size + 2, 0, none⟩)]) rfl (enters_of Try.func92 (by kernel_rfl) rfl) hstops
    belowK_t (belowK_b (Nat.le_refl _)) (fun _ => rfl)
    (fun pre W => pre = [] ∧ Blk W w.heap.size 3 #[.int .i64 0] ∧ Below w.heap.size w W)
    (fun c pre W => c = .ret ∧ (∃ x, pre = [x] ∧ Blk W w.heap.size 3 #[.int .i64 x]) ∧ Below w.heap.size w W)
    (fun pre W W' h k => ⟨h.1, h.2.1.kept k, h.2.2.trans (k.below.mono (by omega))⟩)
    (fun c pre W W' h k => ⟨h.1, h.2.1.imp fun x hx => ⟨hx.1, hx.2.kept k⟩, h.2.2.trans (k.below.mono (by omega))⟩)
    ⟨rfl, hR, hB⟩ _ ?assign ?body ?done ?stop
  case assign =>
    intro l x W K hK
    gi_wp2
    exact hK
  case body =>
    rintro l pre x W hW ⟨rfl, hr, hb⟩ _
    have hrf := hr.frozen 0
    have hrc := hr.one
    gi_wp2
    exact ⟨keepsFrom_set _ _ _ _, rfl, ⟨x, rfl, hr.set_ 0 _⟩, hb.setCell (p := ⟨w.heap.size, 0, none⟩) (by simp) _⟩
  case done =>
    rintro D xs W hD rfl ⟨hp, hr, hb⟩ hK
    have hv := first_nil hp
    have HV := hide hv
    clear hp hv
    have hrf := hr.frozen 0
    have hrc := hr.one
    gi_wp2
    have hK' : (W.setCell ⟨w.heap.size, 0, none⟩ (.int .i64 (-1))).heap[D]? = some (.deferred (some [])) := (Below.heap_setCell _ _ _ _ (by simp; omega)).trans hK
    have hr2 := (hr.set_ 0 (.int .i64 (-1))).putObj (l := D) (o' := .deferred none) hK' rfl
    have hrc2 := hr2.one
    refine rf_ret (v := .int .i64 (-1)) rfl hK' (by simp [results, Try.f67, go_sem, hrc2]) ⟨by rw [HV.out], ?_⟩
    exact Below.putD (hb.setCell (p := ⟨w.heap.size, 0, none⟩) (by simp) _) (by have := hb.size; simp [World.setCell]; omega) (by omega) _
  case stop =>
    rintro D c pre W hD hpre ⟨rfl, ⟨x, rfl, hr⟩, hb⟩ hK
    obtain ⟨rest, hrest⟩ := hpre
    have hv := first_cons hrest.symm
    have HV := hide hv
    clear hrest hv
    gi_wp2
    have hrc2 := (hr.putObj (l := D) (o' := .deferred none) hK rfl).one
    exact rf_ret (v := .int .i64 x) rfl hK (by simp [results, Try.f67, go_sem, hrc2]) ⟨by rw [HV.out], Below.putD hb hb.size (by omega) _⟩
end Go.Proofs.Ytidddeobachjgaa
