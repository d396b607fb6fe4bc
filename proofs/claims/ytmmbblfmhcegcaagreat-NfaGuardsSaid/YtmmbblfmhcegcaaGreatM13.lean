/- Several texts of one proof: The first of the steps that is not so: what the layer of checks' 'first' makes of a question. | Plain laws: the length that the sixth rule asks for. | The seven rules of the layer of checks: the walk of check.rules. | What each of the seven functions answers. -/
import Derived.Test.YtmmbblfmhcegcaaGreatM12
import Derived.Test.YtmmbblfmhcegcaaGreatM07
import Derived.Test.YtmmbblfmhcegcaaGreatM11

namespace Go.Proofs.YtmmbblfmhcegcaaGreat
open Go.RowKit Go.Shelf
attribute [local go_sem] Oper.semAt_some

theorem makes_first (Bp fn : Nat) (caps : Array Value) (w : World) : Calls Tryz.prog 59 #[.func (.func fn) #[] caps, .pointer (some ⟨Bp, 0, none⟩)] w fun e w' =>
    e = .returned (.func (.func 60) #[] #[.pointer (some ⟨Bp, 0, none⟩), .pointer (some ⟨w.heap.size, 0, none⟩)]) ∧ w' = w.alloc (.cells #[.func (.func fn) #[] caps] 86) := by
  go_enter Tryz.func59, Tryz.ntmps59
  go_wp2
  go_ret
  exact ⟨rfl, rfl⟩

set_option maxRecDepth 100000 in
set_option maxHeartbeats 2000000 in
theorem first3_any (Bp Bs  : Nat) (p : List Sp) (f : Nat → Sp → Bool) (win : Int) (sv : Value) (w : World)
    (hbp : Blk w Bp 24 #[sv, .int .i64 win]) (hbs : Blk w Bs 86 #[.func (.func 65) #[] #[]]) (hrd : RdS w w.heap.size sv p)
    (hcall : ∀ (k : Nat) (s : Sp) (cv : Value) (w1 : World), Below w.heap.size w w1 → p[k]? = some s → RdC w1 w1.heap.size cv s.cmps → Calls Tryz.prog 65 #[.int .i64 k, spV s cv] w1 fun e w' => e = .returned (.bool (f k s)) ∧ Below w1.heap.size w1 w') :
    Calls Tryz.prog 60 #[.pointer (some ⟨Bp, 0, none⟩), .pointer (some ⟨Bs, 0, none⟩)] w fun e w' => e = .returned (.int .i64 (firstFrom f 0 p)) ∧ Below w.heap.size w w' := by
  obtain ⟨A, cap, hsv⟩ : ∃ A cap, sv = .slice A p.length cap := by
    obtain ⟨A, cap, b, off, e, -⟩ := hrd
    exact ⟨A, cap, e⟩
  subst hsv
  have hc0 : w.cell? ⟨Bp, 0, none⟩ = some (.slice A p.length cap) := hbp.cell 0
  have hc1 : w.cell? ⟨Bp, 1, none⟩ = some (.int .i64 win) := hbp.cell 1
  have hs0 : w.cell? ⟨Bs, 0, none⟩ = some (.func (.func 65) #[] #[]) := hbs.one
  have hpl := hbp.lt
  have hsl := hbs.lt
  refine (callsIn_wide (n := 3)).1 ?_
  refine callsIn_of_wp_marks Tryz.func60 rfl trivial ?_ rfl
  simp only [Tryz.ntmps60, List.size_toArray, List.length_cons, List.length_nil, Nat.reduceAdd, Nat.reduceSub, Array.replicate_succ, Array.replicate_zero, List.push_toArray, List.append_toArray, List.nil_append, List.cons_append]
  have hrdh := hide hrd
  have hCh := hide hcall
  clear hrd hcall
  gi_wp2_with (refine ⟨trivial, ?_⟩; gi_at_call 61; refine (callsIn_wide.2 (steps_any _ _ _ _ _)).mono ?_; rintro e w' ⟨rfl, rfl⟩)
  obtain ⟨W0, hW0⟩ : ∃ W0, ((w.alloc (.cells #[.int .i64 0] 3)).alloc (.cells #[.slice A p.length cap, .int .i64 win] 24)).alloc (.cells #[.func (.func 65) #[] #[]] 86) = W0 := ⟨_, rfl⟩
  rw [hW0]
  have hR : Blk W0 w.heap.size 3 #[.int .i64 0] := by rw [← hW0]; exact ((Blk.new_ (by simp) _ _).alloc _).alloc _
  have hP : Blk W0 (w.heap.size + 1) 24 #[.slice A p.length cap, .int .i64 win] := by rw [← hW0]; exact (Blk.new_ (by simp) _ _).alloc _
  have hF : Blk W0 (w.heap.size + 2) 86 #[.func (.func 65) #[] #[]] := by rw [← hW0]; exact Blk.new_ (by simp) _ _
  have hB : Below w.heap.size w W0 := by rw [← hW0]; exact (((Below.refl _ w).alloc (Nat.le_refl _) _).alloc (by simp) _).alloc (by simp; omega) _
  have hz : W0.heap.size = w.heap.size + 3 := by rw [← hW0]; simp
  have hrd0 : RdS W0 W0.heap.size (.slice A p.length cap) p := RdS.below hrdh.out hB (by omega)
  clear hW0
  have hstops : SeqStopsK Fence.wide 2 Tryz.prog 80 #[.pointer (some ⟨w.heap.size + 1, 0, none⟩), .pointer (some ⟨w.heap.size + 2, 0, none⟩)] (fun x : Int => #[Value.int .i64 x]) (Below W0.heap.size) (fun ys => ys = badFrom f 0 p) (fun pre => pre <+: badFrom f 0 p) (badFrom f 0 p).length W0 :=
    fun l J Jx W hW hJ _ hY h0 => steps3_in 2 (by omega) l (w.heap.size + 1) (w.heap.size + 2)  W0.heap.size p f win (.slice A p.length cap) J Jx W hJ hW.size (hP.below hW hP.lt) (hF.below hW hF.lt) hF.lt (RdS.below hrd0 hW (Nat.le_refl _))
      (fun k s cv w1 h1 _ hk hr => hCh.out k s cv w1 ((hB.trans (hW.mono (by omega))).trans (h1.mono (by omega))) hk hr) hY h0
  refine' rf_law (gf := 80) (lb := #[.pointer (some ⟨w.heap.size + 1, 0, none⟩), .pointer (some ⟨w.heap.size + 2, 0, none⟩)]) rfl (enters_of Tryz.func80 (by kernel_rfl) rfl) hstops
    belowK_t (belowK_b (Nat.le_refl _)) (fun _ => rfl)
    (fun pre W => pre = [] ∧ Blk W w.heap.size 3 #[.int .i64 0] ∧ Below w.heap.size w W)
    (fun c pre W => c = .ret ∧ (∃ x, pre = [x] ∧ Blk W w.heap.size 3 #[.int .i64 x]) ∧ Below w.heap.size w W)
    (fun pre W W' h k => ⟨h.1, h.2.1.kept k, h.2.2.trans (k.below.mono (by omega))⟩)
    (fun c pre W W' h k => ⟨h.1, h.2.1.imp fun x hx => ⟨hx.1, hx.2.kept k⟩, h.2.2.trans (k.below.mono (by omega))⟩)
    ⟨rfl, hR, hB⟩ _ ?assign ?body ?done ?stop
  case assign =>
    intro l x W K hK
    gi_wp2
    exact hK
  case body =>
    rintro l pre x W hW ⟨rfl, hr, hb⟩ _
    have hrf := hr.frozen 0
    have hrc := hr.one
    gi_wp2
    exact ⟨keepsFrom_set _ _ _ _, rfl, ⟨x, rfl, hr.set_ 0 _⟩, hb.setCell (p := ⟨w.heap.size, 0, none⟩) (by simp) _⟩
  case done =>
    rintro D xs W hD rfl ⟨hp, hr, hb⟩ hK
    have hv := first_nil hp
    have HV := hide hv
    clear hp hv
    have hrf := hr.frozen 0
    have hrc := hr.one
    gi_wp2
    have hK' : (W.setCell ⟨w.heap.size, 0, none⟩ (.int .i64 (-1))).heap[D]? = some (.deferred (some [])) := (Below.heap_setCell _ _ _ _ (by simp; omega)).trans hK
    have hr2 := (hr.set_ 0 (.int .i64 (-1))).putObj (l := D) (o' := .deferred none) hK' rfl
    have hrc2 := hr2.one
    refine rf_ret (v := .int .i64 (-1)) rfl hK' (by simp [results, Tryz.f60, go_sem, hrc2]) ⟨by rw [HV.out], ?_⟩
    exact Below.putD (hb.setCell (p := ⟨w.heap.size, 0, none⟩) (by simp) _) (by have := hb.size; simp [World.setCell]; omega) (by omega) _
  case stop =>
    rintro D c pre W hD hpre ⟨rfl, ⟨x, rfl, hr⟩, hb⟩ hK
    obtain ⟨rest, hrest⟩ := hpre
    have hv := first_cons hrest.symm
    have HV := hide hv
    clear hrest hv
    gi_wp2
    have hrc2 := (hr.putObj (l := D) (o' := .deferred none) hK rfl).one
    exact rf_ret (v := .int .i64 x) rfl hK (by simp [results, Tryz.f60, go_sem, hrc2]) ⟨by rw [HV.out], Below.putD hb hb.size (by omega) _⟩
set_option maxRecDepth 100000 in
set_option maxHeartbeats 2000000 in
theorem first4_any (Bp Bs B : Nat) (p : List Sp) (f : Nat → Sp → Bool) (win : Int) (sv : Value) (w : World)
    (hbp : Blk w Bp 24 #[sv, .int .i64 win]) (hbs : Blk w Bs 86 #[.func (.func 66) #[] #[.pointer (some ⟨B, 0, none⟩)]]) (hrd : RdS w w.heap.size sv p)
    (hcall : ∀ (k : Nat) (s : Sp) (cv : Value) (w1 : World), Below w.heap.size w w1 → p[k]? = some s → RdC w1 w1.heap.size cv s.cmps → Calls Tryz.prog 66 #[.int .i64 k, spV s cv, .pointer (some ⟨B, 0, none⟩)] w1 fun e w' => e = .returned (.bool (f k s)) ∧ Below w1.heap.size w1 w') :
    Calls Tryz.prog 60 #[.pointer (some ⟨Bp, 0, none⟩), .pointer (some ⟨Bs, 0, none⟩)] w fun e w' => e = .returned (.int .i64 (firstFrom f 0 p)) ∧ Below w.heap.size w w' := by
  obtain ⟨A, cap, hsv⟩ : ∃ A cap, sv = .slice A p.length cap := by
    obtain ⟨A, cap, b, off, e, -⟩ := hrd
    exact ⟨A, cap, e⟩
  subst hsv
  have hc0 : w.cell? ⟨Bp, 0, none⟩ = some (.slice A p.length cap) := hbp.cell 0
  have hc1 : w.cell? ⟨Bp, 1, none⟩ = some (.int .i64 win) := hbp.cell 1
  have hs0 : w.cell? ⟨Bs, 0, none⟩ = some (.func (.func 66) #[] #[.pointer (some ⟨B, 0, none⟩)]) := hbs.one
  have hpl := hbp.lt
  have hsl := hbs.lt
  refine (callsIn_wide (n := 3)).1 ?_
  refine callsIn_of_wp_marks Tryz.func60 rfl trivial ?_ rfl
  simp only [Tryz.ntmps60, List.size_toArray, List.length_cons, List.length_nil, Nat.reduceAdd, Nat.reduceSub, Array.replicate_succ, Array.replicate_zero, List.push_toArray, List.append_toArray, List.nil_append, List.cons_append]
  have hrdh := hide hrd
  have hCh := hide hcall
  clear hrd hcall
  gi_wp2_with (refine ⟨trivial, ?_⟩; gi_at_call 61; refine (callsIn_wide.2 (steps_any _ _ _ _ _)).mono ?_; rintro e w' ⟨rfl, rfl⟩)
  obtain ⟨W0, hW0⟩ : ∃ W0, ((w.alloc (.cells #[.int .i64 0] 3)).alloc (.cells #[.slice A p.length cap, .int .i64 win] 24)).alloc (.cells #[.func (.func 66) #[] #[.pointer (some ⟨B, 0, none⟩)]] 86) = W0 := ⟨_, rfl⟩
  rw [hW0]
  have hR : Blk W0 w.heap.size 3 #[.int .i64 0] := by rw [← hW0]; exact ((Blk.new_ (by simp) _ _).alloc _).alloc _
  have hP : Blk W0 (w.heap.size + 1) 24 #[.slice A p.length cap, .int .i64 win] := by rw [← hW0]; exact (Blk.new_ (by simp) _ _).alloc _
  have hF : Blk W0 (w.heap.size + 2) 86 #[.func (.func 66) #[] #[.pointer (some ⟨B, 0, none⟩)]] := by rw [← hW0]; exact Blk.new_ (by simp) _ _
  have hB : Below w.heap.size w W0 := by rw [← hW0]; exact (((Below.refl _ w).alloc (Nat.le_refl _) _).alloc (by simp) _).alloc (by simp; omega) _
  have hz : W0.heap.size = w.heap.size + 3 := by rw [← hW0]; simp
  have hrd0 : RdS W0 W0.heap.size (.slice A p.length cap) p := RdS.below hrdh.out hB (by omega)
  clear hW0
  have hstops : SeqStopsK Fence.wide 2 Tryz.prog 80 #[.pointer (some ⟨w.heap.size + 1, 0, none⟩), .pointer (some ⟨w.heap.size + 2, 0, none⟩)] (fun x : Int => #[Value.int .i64 x]) (Below W0.heap.size) (fun ys => ys = badFrom f 0 p) (fun pre => pre <+: badFrom f 0 p) (badFrom f 0 p).length W0 :=
    fun l J Jx W hW hJ _ hY h0 => steps4_in 2 (by omega) l (w.heap.size + 1) (w.heap.size + 2) B W0.heap.size p f win (.slice A p.length cap) J Jx W hJ hW.size (hP.below hW hP.lt) (hF.below hW hF.lt) hF.lt (RdS.below hrd0 hW (Nat.le_refl _))
      (fun k s cv w1 h1 _ hk hr => hCh.out k s cv w1 ((hB.trans (hW.mono (by omega))).trans (h1.mono (by omega))) hk hr) hY h0
  refine' rf_law (gf := 80) (lb := #[.pointer (some ⟨w.heap.size + 1, 0, none⟩), .pointer (some ⟨w.heap.size + 2, 0, none⟩)]) rfl (enters_of Tryz.func80 (by kernel_rfl) rfl) hstops
    belowK_t (belowK_b (Nat.le_refl _)) (fun _ => rfl)
    (fun pre W => pre = [] ∧ Blk W w.heap.size 3 #[.int .i64 0] ∧ Below w.heap.size w W)
    (fun c pre W => c = .ret ∧ (∃ x, pre = [x] ∧ Blk W w.heap.size 3 #[.int .i64 x]) ∧ Below w.heap.size w W)
    (fun pre W W' h k => ⟨h.1, h.2.1.kept k, h.2.2.trans (k.below.mono (by omega))⟩)
    (fun c pre W W' h k => ⟨h.1, h.2.1.imp fun x hx => ⟨hx.1, hx.2.kept k⟩, h.2.2.trans (k.below.mono (by omega))⟩)
    ⟨rfl, hR, hB⟩ _ ?assign ?body ?done ?stop
  case assign =>
    intro l x W K hK
    gi_wp2
    exact hK
  case body =>
    rintro l pre x W hW ⟨rfl, hr, hb⟩ _
    have hrf := hr.frozen 0
    have hrc := hr.one
    gi_wp2
    exact ⟨keepsFrom_set _ _ _ _, rfl, ⟨x, rfl, hr.set_ 0 _⟩, hb.setCell (p := ⟨w.heap.size, 0, none⟩) (by simp) _⟩
  case done =>
    rintro D xs W hD rfl ⟨hp, hr, hb⟩ hK
    have hv := first_nil hp
    have HV := hide hv
    clear hp hv
    have hrf := hr.frozen 0
    have hrc := hr.one
    gi_wp2
    have hK' : (W.setCell ⟨w.heap.size, 0, none⟩ (.int .i64 (-1))).heap[D]? = some (.deferred (some [])) := (Below.heap_setCell _ _ _ _ (by simp; omega)).trans hK
    have hr2 := (hr.set_ 0 (.int .i64 (-1))).putObj (l := D) (o' := .deferred none) hK' rfl
    have hrc2 := hr2.one
    refine rf_ret (v := .int .i64 (-1)) rfl hK' (by simp [results, Tryz.f60, go_sem, hrc2]) ⟨by rw [HV.out], ?_⟩
    exact Below.putD (hb.setCell (p := ⟨w.heap.size, 0, none⟩) (by simp) _) (by have := hb.size; simp [World.setCell]; omega) (by omega) _
  case stop =>
    rintro D c pre W hD hpre ⟨rfl, ⟨x, rfl, hr⟩, hb⟩ hK
    obtain ⟨rest, hrest⟩ := hpre
    have hv := first_cons hrest.symm
    have HV := hide hv
    clear hrest hv
    gi_wp2
    have hrc2 := (hr.putObj (l := D) (o' := .deferred none) hK rfl).one
    exact rf_ret (v := .int .i64 x) rfl hK (by simp [results, Tryz.f60, go_sem, hrc2]) ⟨by rw [HV.out], Below.putD hb hb.size (by omega) _⟩
set_option maxRecDepth 100000 in
set_option maxHeartbeats 2000000 in
theorem first5_any (Bp Bs  : Nat) (p : List Sp) (f : Nat → Sp → Bool) (win : Int) (sv : Value) (w : World)
    (hbp : Blk w Bp 24 #[sv, .int .i64 win]) (hbs : Blk w Bs 86 #[.func (.func 67) #[] #[]]) (hrd : RdS w w.heap.size sv p)
    (hcall : ∀ (k : Nat) (s : Sp) (cv : Value) (w1 : World), Below w.heap.size w w1 → p[k]? = some s → RdC w1 w1.heap.size cv s.cmps → Calls Tryz.prog 67 #[.int .i64 k, spV s cv] w1 fun e w' => e = .returned (.bool (f k s)) ∧ Below w1.heap.size w1 w') :
    Calls Tryz.prog 60 #[.pointer (some ⟨Bp, 0, none⟩), .pointer (some ⟨Bs, 0, none⟩)] w fun e w' => e = .returned (.int .i64 (firstFrom f 0 p)) ∧ Below w.heap.size w w' := by
  obtain ⟨A, cap, hsv⟩ : ∃ A cap, sv = .slice A p.length cap := by
    obtain ⟨A, cap, b, off, e, -⟩ := hrd
    exact ⟨A, cap, e⟩
  subst hsv
  have hc0 : w.cell? ⟨Bp, 0, none⟩ = some (.slice A p.length cap) := hbp.cell 0
  have hc1 : w.cell? ⟨Bp, 1, none⟩ = some (.int .i64 win) := hbp.cell 1
  have hs0 : w.cell? ⟨Bs, 0, none⟩ = some (.func (.func 67) #[] #[]) := hbs.one
  have hpl := hbp.lt
  have hsl := hbs.lt
  refine (callsIn_wide (n := 3)).1 ?_
  refine callsIn_of_wp_marks Tryz.func60 rfl trivial ?_ rfl
  simp only [Tryz.ntmps60, List.size_toArray, List.length_cons, List.length_nil, Nat.reduceAdd, Nat.reduceSub, Array.replicate_succ, Array.replicate_zero, List.push_toArray, List.append_toArray, List.nil_append, List.cons_append]
  have hrdh := hide hrd
  have hCh := hide hcall
  clear hrd hcall
  gi_wp2_with (refine ⟨trivial, ?_⟩; gi_at_call 61; refine (callsIn_wide.2 (steps_any _ _ _ _ _)).mono ?_; rintro e w' ⟨rfl, rfl⟩)
  obtain ⟨W0, hW0⟩ : ∃ W0, ((w.alloc (.cells #[.int .i64 0] 3)).alloc (.cells #[.slice A p.length cap, .int .i64 win] 24)).alloc (.cells #[.func (.func 67) #[] #[]] 86) = W0 := ⟨_, rfl⟩
  rw [hW0]
  have hR : Blk W0 w.heap.size 3 #[.int .i64 0] := by rw [← hW0]; exact ((Blk.new_ (by simp) _ _).alloc _).alloc _
  have hP : Blk W0 (w.heap.size + 1) 24 #[.slice A p.length cap, .int .i64 win] := by rw [← hW0]; exact (Blk.new_ (by simp) _ _).alloc _
  have hF : Blk W0 (w.heap.size + 2) 86 #[.func (.func 67) #[] #[]] := by rw [← hW0]; exact Blk.new_ (by simp) _ _
  have hB : Below w.heap.size w W0 := by rw [← hW0]; exact (((Below.refl _ w).alloc (Nat.le_refl _) _).alloc (by simp) _).alloc (by simp; omega) _
  have hz : W0.heap.size = w.heap.size + 3 := by rw [← hW0]; simp
  have hrd0 : RdS W0 W0.heap.size (.slice A p.length cap) p := RdS.below hrdh.out hB (by omega)
  clear hW0
  have hstops : SeqStopsK Fence.wide 2 Tryz.prog 80 #[.pointer (some ⟨w.heap.size + 1, 0, none⟩), .pointer (some ⟨w.heap.size + 2, 0, none⟩)] (fun x : Int => #[Value.int .i64 x]) (Below W0.heap.size) (fun ys => ys = badFrom f 0 p) (fun pre => pre <+: badFrom f 0 p) (badFrom f 0 p).length W0 :=
    fun l J Jx W hW hJ _ hY h0 => steps5_in 2 (by omega) l (w.heap.size + 1) (w.heap.size + 2)  W0.heap.size p f win (.slice A p.length cap) J Jx W hJ hW.size (hP.below hW hP.lt) (hF.below hW hF.lt) hF.lt (RdS.below hrd0 hW (Nat.le_refl _))
      (fun k s cv w1 h1 _ hk hr => hCh.out k s cv w1 ((hB.trans (hW.mono (by omega))).trans (h1.mono (by omega))) hk hr) hY h0
  refine' rf_law (gf := 80) (lb := #[.pointer (some ⟨w.heap.size + 1, 0, none⟩), .pointer (some ⟨w.heap.size + 2, 0, none⟩)]) rfl (enters_of Tryz.func80 (by kernel_rfl) rfl) hstops
    belowK_t (belowK_b (Nat.le_refl _)) (fun _ => rfl)
    (fun pre W => pre = [] ∧ Blk W w.heap.size 3 #[.int .i64 0] ∧ Below w.heap.size w W)
    (fun c pre W => c = .ret ∧ (∃ x, pre = [x] ∧ Blk W w.heap.size 3 #[.int .i64 x]) ∧ Below w.heap.size w W)
    (fun pre W W' h k => ⟨h.1, h.2.1.kept k, h.2.2.trans (k.below.mono (by omega))⟩)
    (fun c pre W W' h k => ⟨h.1, h.2.1.imp fun x hx => ⟨hx.1, hx.2.kept k⟩, h.2.2.trans (k.below.mono (by omega))⟩)
    ⟨rfl, hR, hB⟩ _ ?assign ?body ?done ?stop
  case assign =>
    intro l x W K hK
    gi_wp2
    exact hK
  case body =>
    rintro l pre x W hW ⟨rfl, hr, hb⟩ _
    have hrf := hr.frozen 0
    have hrc := hr.one
    gi_wp2
    exact ⟨keepsFrom_set _ _ _ _, rfl, ⟨x, rfl, hr.set_ 0 _⟩, hb.setCell (p := ⟨w.heap.size, 0, none⟩) (by simp) _⟩
  case done =>
    rintro D xs W hD rfl ⟨hp, hr, hb⟩ hK
    have hv := first_nil hp
    have HV := hide hv
    clear hp hv
    have hrf := hr.frozen 0
    have hrc := hr.one
    gi_wp2
    have hK' : (W.setCell ⟨w.heap.size, 0, none⟩ (.int .i64 (-1))).heap[D]? = some (.deferred (some [])) := (Below.heap_setCell _ _ _ _ (by simp; omega)).trans hK
    have hr2 := (hr.set_ 0 (.int .i64 (-1))).putObj (l := D) (o' := .deferred none) hK' rfl
    have hrc2 := hr2.one
    refine rf_ret (v := .int .i64 (-1)) rfl hK' (by simp [results, Tryz.f60, go_sem, hrc2]) ⟨by rw [HV.out], ?_⟩
    exact Below.putD (hb.setCell (p := ⟨w.heap.size, 0, none⟩) (by simp) _) (by have := hb.size; simp [World.setCell]; omega) (by omega) _
  case stop =>
    rintro D c pre W hD hpre ⟨rfl, ⟨x, rfl, hr⟩, hb⟩ hK
    obtain ⟨rest, hrest⟩ := hpre
    have hv := first_cons hrest.symm
    have HV := hide hv
    clear hrest hv
    gi_wp2
    have hrc2 := (hr.putObj (l := D) (o' := .deferred none) hK rfl).one
    exact rf_ret (v := .int .i64 x) rfl hK (by simp [results, Tryz.f60, go_sem, hrc2]) ⟨by rw [HV.out], Below.putD hb hb.size (by omega) _⟩
set_option maxRecDepth 100000 in
set_option maxHeartbeats 2000000 in
theorem first7_any (Bp Bs B : Nat) (p : List Sp) (f : Nat → Sp → Bool) (win : Int) (sv : Value) (w : World)
    (hbp : Blk w Bp 24 #[sv, .int .i64 win]) (hbs : Blk w Bs 86 #[.func (.func 69) #[] #[.pointer (some ⟨B, 0, none⟩)]]) (hrd : RdS w w.heap.size sv p)
    (hcall : ∀ (k : Nat) (s : Sp) (cv : Value) (w1 : World), Below w.heap.size w w1 → p[k]? = some s → RdC w1 w1.heap.size cv s.cmps → Calls Tryz.prog 69 #[.int .i64 k, spV s cv, .pointer (some ⟨B, 0, none⟩)] w1 fun e w' => e = .returned (.bool (f k s)) ∧ Below w1.heap.size w1 w') :
    Calls Tryz.prog 60 #[.pointer (some ⟨Bp, 0, none⟩), .pointer (some ⟨Bs, 0, none⟩)] w fun e w' => e = .returned (.int .i64 (firstFrom f 0 p)) ∧ Below w.heap.size w w' := by
  obtain ⟨A, cap, hsv⟩ : ∃ A cap, sv = .slice A p.length cap := by
    obtain ⟨A, cap, b, off, e, -⟩ := hrd
    exact ⟨A, cap, e⟩
  subst hsv
  have hc0 : w.cell? ⟨Bp, 0, none⟩ = some (.slice A p.length cap) := hbp.cell 0
  have hc1 : w.cell? ⟨Bp, 1, none⟩ = some (.int .i64 win) := hbp.cell 1
  have hs0 : w.cell? ⟨Bs, 0, none⟩ = some (.func (.func 69) #[] #[.pointer (some ⟨B, 0, none⟩)]) := hbs.one
  have hpl := hbp.lt
  have hsl := hbs.lt
  refine (callsIn_wide (n := 3)).1 ?_
  refine callsIn_of_wp_marks Tryz.func60 rfl trivial ?_ rfl
  simp only [Tryz.ntmps60, List.size_toArray, List.length_cons, List.length_nil, Nat.reduceAdd, Nat.reduceSub, Array.replicate_succ, Array.replicate_zero, List.push_toArray, List.append_toArray, List.nil_append, List.cons_append]
  have hrdh := hide hrd
  have hCh := hide hcall
  clear hrd hcall
  gi_wp2_with (refine ⟨trivial, ?_⟩; gi_at_call 61; refine (callsIn_wide.2 (steps_any _ _ _ _ _)).mono ?_; rintro e w' ⟨rfl, rfl⟩)
  obtain ⟨W0, hW0⟩ : ∃ W0, ((w.alloc (.cells #[.int .i64 0] 3)).alloc (.cells #[.slice A p.length cap, .int .i64 win] 24)).alloc (.cells #[.func (.func 69) #[] #[.pointer (some ⟨B, 0, none⟩)]] 86) = W0 := ⟨_, rfl⟩
  rw [hW0]
  have hR : Blk W0 w.heap.size 3 #[.int .i64 0] := by rw [← hW0]; exact ((Blk.new_ (by simp) _ _).alloc _).alloc _
  have hP : Blk W0 (w.heap.size + 1) 24 #[.slice A p.length cap, .int .i64 win] := by rw [← hW0]; exact (Blk.new_ (by simp) _ _).alloc _
  have hF : Blk W0 (w.heap.size + 2) 86 #[.func (.func 69) #[] #[.pointer (some ⟨B, 0, none⟩)]] := by rw [← hW0]; exact Blk.new_ (by simp) _ _
  have hB : Below w.heap.size w W0 := by rw [← hW0]; exact (((Below.refl _ w).alloc (Nat.le_refl _) _).alloc (by simp) _).alloc (by simp; omega) _
  have hz : W0.heap.size = w.heap.size + 3 := by rw [← hW0]; simp
  have hrd0 : RdS W0 W0.heap.size (.slice A p.length cap) p := RdS.below hrdh.out hB (by omega)
  clear hW0
  have hstops : SeqStopsK Fence.wide 2 Tryz.prog 80 #[.pointer (some ⟨w.heap.size + 1, 0, none⟩), .pointer (some ⟨w.heap.size + 2, 0, none⟩)] (fun x : Int => #[Value.int .i64 x]) (Below W0.heap.size) (fun ys => ys = badFrom f 0 p) (fun pre => pre <+: badFrom f 0 p) (badFrom f 0 p).length W0 :=
    fun l J Jx W hW hJ _ hY h0 => steps7_in 2 (by omega) l (w.heap.size + 1) (w.heap.size + 2) B W0.heap.size p f win (.slice A p.length cap) J Jx W hJ hW.size (hP.below hW hP.lt) (hF.below hW hF.lt) hF.lt (RdS.below hrd0 hW (Nat.le_refl _))
      (fun k s cv w1 h1 _ hk hr => hCh.out k s cv w1 ((hB.trans (hW.mono (by omega))).trans (h1.mono (by omega))) hk hr) hY h0
  refine' rf_law (gf := 80) (lb := #[.pointer (some ⟨w.heap.size + 1, 0, none⟩), .pointer (some ⟨w.heap.size + 2, 0, none⟩)]) rfl (enters_of Tryz.func80 (by kernel_rfl) rfl) hstops
    belowK_t (belowK_b (Nat.le_refl _)) (fun _ => rfl)
    (fun pre W => pre = [] ∧ Blk W w.heap.size 3 #[.int .i64 0] ∧ Below w.heap.size w W)
    (fun c pre W => c = .ret ∧ (∃ x, pre = [x] ∧ Blk W w.heap.size 3 #[.int .i64 x]) ∧ Below w.heap.size w W)
    (fun pre W W' h k => ⟨h.1, h.2.1.kept k, h.2.2.trans (k.below.mono (by omega))⟩)
    (fun c pre W W' h k => ⟨h.1, h.2.1.imp fun x hx => ⟨hx.1, hx.2.kept k⟩, h.2.2.trans (k.below.mono (by omega))⟩)
    ⟨rfl, hR, hB⟩ _ ?assign ?body ?done ?stop
  case assign =>
    intro l x W K hK
    gi_wp2
    exact hK
  case body =>
    rintro l pre x W hW ⟨rfl, hr, hb⟩ _
    have hrf := hr.frozen 0
    have hrc := hr.one
    gi_wp2
    exact ⟨keepsFrom_set _ _ _ _, rfl, ⟨x, rfl, hr.set_ 0 _⟩, hb.setCell (p := ⟨w.heap.size, 0, none⟩) (by simp) _⟩
  case done =>
    rintro D xs W hD rfl ⟨hp, hr, hb⟩ hK
    have hv := first_nil hp
    have HV := hide hv
    clear hp hv
    have hrf := hr.frozen 0
    have hrc := hr.one
    gi_wp2
    have hK' : (W.setCell ⟨w.heap.size, 0, none⟩ (.int .i64 (-1))).heap[D]? = some (.deferred (some [])) := (Below.heap_setCell _ _ _ _ (by simp; omega)).trans hK
    have hr2 := (hr.set_ 0 (.int .i64 (-1))).putObj (l := D) (o' := .deferred none) hK' rfl
    have hrc2 := hr2.one
    refine rf_ret (v := .int .i64 (-1)) rfl hK' (by simp [results, Tryz.f60, go_sem, hrc2]) ⟨by rw [HV.out], ?_⟩
    exact Below.putD (hb.setCell (p := ⟨w.heap.size, 0, none⟩) (by simp) _) (by have := hb.size; simp [World.setCell]; omega) (by omega) _
  case stop =>
    rintro D c pre W hD hpre ⟨rfl, ⟨x, rfl, hr⟩, hb⟩ hK
    obtain ⟨rest, hrest⟩ := hpre
    have hv := first_cons hrest.symm
    have HV := hide hv
    clear hrest hv
    gi_wp2
    have hrc2 := (hr.putObj (l := D) (o' := .deferred none) hK rfl).one
    exact rf_ret (v := .int .i64 x) rfl hK (by simp [results, Tryz.f60, go_sem, hrc2]) ⟨by rw [HV.out], Below.putD hb hb.size (by omega) _⟩
end Go.Proofs.YtmmbblfmhcegcaaGreat

namespace Go.Proofs.YtmmbblfmhcegcaaGreat

theorem long_snoc {p : List Sp} {k : Nat} {s : Sp} (h : p[k]? = some s) : longF (p.take (k + 1)) = longF (p.take k) + (if s.neg then 0 else s.max) := by
  simp only [longF, List.take_add_one, h, Option.toList_some, List.map_append, List.map_cons, List.map_nil, List.sum_append_int, List.sum_cons, List.sum_nil]
  omega
theorem long_bd {p : List Sp} (hm : ∀ s ∈ p, 0 ≤ s.max ∧ s.max ≤ 1099511627776) : 0 ≤ longF p ∧ longF p ≤ 1099511627776 * p.length := by
  induction p with
  | nil => simp [longF]
  | cons s p ih =>
    obtain ⟨h1, h2⟩ := hm s (by simp)
    obtain ⟨h3, h4⟩ := ih (fun t ht => hm t (by simp [ht]))
    simp only [longF, List.map_cons, List.sum_cons, List.length_cons] at *
    split <;> omega
theorem long_bd_take {p : List Sp} (hm : ∀ s ∈ p, 0 ≤ s.max ∧ s.max ≤ 1099511627776) (hl : p.length ≤ 26) (k : Nat) : 0 ≤ longF (p.take k) ∧ longF (p.take k) ≤ 1099511627776 * 26 := by
  obtain ⟨h1, h2⟩ := long_bd (p := p.take k) (fun s hs => hm s (List.mem_of_mem_take hs))
  have h3 : (p.take k).length ≤ 26 := Nat.le_trans (List.length_take_le' _ _) hl
  omega
theorem right_parts {p : List Sp} {win : Int} (h : rightB p win = true) : 0 < p.length ∧ p.length ≤ 26 ∧ (∀ s ∈ p, 0 ≤ s.max ∧ s.max ≤ 1099511627776) := by
  simp only [rightB, Bool.and_eq_true, decide_eq_true_eq, List.all_eq_true, Sp.ok, numB] at h
  exact ⟨h.1.1.1, h.1.1.2, fun s hs => (h.2 s hs).1.2⟩
theorem firstFrom_mem {f g : Nat → Sp → Bool} {p : List Sp} {i : Nat} (h : ∀ k s, p[k]? = some s → f (i + k) s = g (i + k) s) : firstFrom f i p = firstFrom g i p := by
  induction p generalizing i with
  | nil => rfl
  | cons s p ih =>
    have h0 := h 0 s rfl
    simp only [Nat.add_zero] at h0
    simp only [firstFrom, h0]
    rw [ih fun k t hk => by have := h (k + 1) t (by simpa using hk); rwa [show i + (k + 1) = i + 1 + k by omega] at this]
end Go.Proofs.YtmmbblfmhcegcaaGreat

namespace Go.Proofs.YtmmbblfmhcegcaaGreat
open Go.RowKit Go.Shelf

abbrev ptr (b : Nat) : Value := .pointer (some ⟨b, 0, none⟩)
/-- The seven functions that check.rules makes, and what they lean on. -/
structure RulesAt (w : World) (g B L b : Nat) (p : List Sp) (win : Int) : Prop where
  fns : Blk w g 71 #[.func (.func 62) #[] #[ptr B], .func (.func 64) #[] #[ptr B], .func (.func 60) #[] #[ptr B, ptr b], .func (.func 60) #[] #[ptr B, ptr (b + 1)],
    .func (.func 60) #[] #[ptr B, ptr (b + 1 + 1)], .func (.func 68) #[] #[ptr L], .func (.func 60) #[] #[ptr B, ptr (b + 1 + 1 + 1)]]
  pat : PBox w B p win
  long : Blk w L 3 #[.int .i64 (longF p)]
  b3 : Blk w b 86 #[.func (.func 65) #[] #[]]
  b4 : Blk w (b + 1) 86 #[.func (.func 66) #[] #[ptr B]]
  b5 : Blk w (b + 1 + 1) 86 #[.func (.func 67) #[] #[]]
  b7 : Blk w (b + 1 + 1 + 1) 86 #[.func (.func 69) #[] #[ptr B]]
theorem RulesAt.below {w w' : World} {g B L b : Nat} {p : List Sp} {win : Int} (h : RulesAt w g B L b p win) (hb : Below w.heap.size w w') : RulesAt w' g B L b p win :=
  ⟨h.fns.below hb h.fns.lt, h.pat.below hb (Nat.le_refl _), h.long.below hb h.long.lt, h.b3.below hb h.b3.lt, h.b4.below hb h.b4.lt, h.b5.below hb h.b5.lt, h.b7.below hb h.b7.lt⟩

set_option maxRecDepth 100000 in
set_option maxHeartbeats 4000000 in
theorem rules_any (p : List Sp) (win : Int) (sv : Value) (w : World) (h : RdS w w.heap.size sv p) (hr : rightB p win = true) :
    Calls Tryz.prog 44 #[ptV sv win] w fun e w' => (∃ g B L b, e = .returned (.slice (some ⟨g, 0, none⟩) 7 7) ∧ RulesAt w' g B L b p win) ∧ Below w.heap.size w w' := by
  obtain ⟨h0, h26, hmx⟩ := right_parts hr
  have hbd := hide fun k => long_bd_take hmx h26 k
  clear hmx
  have hrh := hide h
  obtain ⟨A, cap, b, off, rfl, h2, h3, h4, h5⟩ := h
  obtain ⟨rfl, hb⟩ := h4 h0
  clear h4
  go_enter Tryz.func44, Tryz.ntmps44
  go_wp2
  go_loopw [11] (fun i wr => ∃ k : Nat, k ≤ p.length ∧ i = .int .i64 k ∧ Below w.heap.size w wr ∧ Blk wr w.heap.size 24 #[.slice (some ⟨b, off, none⟩) p.length cap, .int .i64 win] ∧ Blk wr (w.heap.size + 1) 3 #[.int .i64 (longF (p.take k))]) (fun i _ => p.length - (intOf i).toNat)
  case atStart => exact ⟨0, by omega, rfl, ((Below.refl _ _).alloc (Nat.le_refl _) _).alloc (by simp) _, (Blk.new_ rfl _ _).alloc _, Blk.new_ (by simp) _ _⟩
  case round =>
    obtain ⟨k, hk, rfl, hB, hP, hL⟩ := hrel
    by_cases hlt : k < p.length
    · have hx := List.getElem?_eq_getElem hlt
      obtain ⟨cs, ⟨cv, rfl, hcv⟩, hat⟩ := h5 k p[k] hx
      obtain ⟨c0, c1, c2, c3, c4, c5⟩ := (hat.below hB hb).c6
      have hsn := hide (long_snoc hx)
      obtain ⟨q1, q2⟩ := hbd.out k
      obtain ⟨q3, q4⟩ := hbd.out (k + 1)
      rw [long_snoc hx] at q3 q4
      have hL0 := hL.one
      have hLf := hL.frozen 0
      have hLl := hL.lt
      have hPh := hide hP
      have hBh := hide hB
      have hLh := hide hL
      obtain ⟨Ac, kc, rfl⟩ : ∃ A cap, cv = .slice A p[k].cmps.length cap := by
        obtain ⟨A, cap, b, off, e, -⟩ := hcv
        exact ⟨A, cap, e⟩
      clear hat h5 hcv hP hB hL
      generalize hs : p[k] = s at *
      generalize longF (p.take k) = x at *
      clear hs
      obtain ⟨neg, kind, mn, mx, strict, cmps⟩ := s
      simp only at c0 c1 c2 c3 c4 c5 hsn q3 q4
      have hw1 : IntKind.i64.wrap ((k : Int) + 1) = (k : Int) + 1 := IntWalk.i64_in _ (by omega)
      cases neg with
      | true =>
        simp only [if_true] at hsn
        go_wp2
        refine ⟨⟨k + 1, by omega, rfl, hBh.out.alloc hBh.out.size _, hPh.out.alloc _, ?_⟩, by simp [intOf]; omega⟩
        rw [hsn.out, Int.add_zero]
        exact hLh.out.alloc _
      | false =>
        simp only [Bool.false_eq_true, if_false] at hsn q3 q4
        have hw2 : IntKind.i64.wrap (x + mx) = x + mx := IntWalk.i64_in _ (by omega)
        go_wp2
        refine ⟨⟨k + 1, by omega, rfl, (hBh.out.setCell (p := ⟨w.heap.size + 1, 0, none⟩) (by simp) _).alloc (by simpa using hBh.out.size) _, (hPh.out.far (p := ⟨w.heap.size + 1, 0, none⟩) (by simp) _).alloc _, ?_⟩, by simp [intOf]; omega⟩
        rw [hsn.out]
        exact (hLh.out.set_ 0 _).alloc _
    · obtain rfl : k = p.length := by omega
      rw [List.take_of_length_le (Nat.le_refl _)] at hL
      have hBh := hide hB
      have hLh := hide hL
      have hPh := hide hP
      clear h5 hB hL hP
      go_wp2
      go_ret
      refine ⟨⟨wr.heap.size + 1 + 1 + 1 + 1, w.heap.size, w.heap.size + 1, wr.heap.size, rfl, ⟨Blk.new_ (by simp) _ _, ⟨_, ((((hPh.out.alloc _).alloc _).alloc _).alloc _).alloc _, hrh.out.below ?hB5 (Below.size ?hB5)⟩, ((((hLh.out.alloc _).alloc _).alloc _).alloc _).alloc _,
        ((((Blk.new_ rfl _ _).alloc _).alloc _).alloc _).alloc _, (((Blk.new_ (by simp) _ _).alloc _).alloc _).alloc _, ((Blk.new_ (by simp) _ _).alloc _).alloc _, (Blk.new_ (by simp) _ _).alloc _⟩⟩, ?hB5⟩
      have hz := hBh.out.size
      exact ((((hBh.out.alloc hz _).alloc (by simp; omega) _).alloc (by simp; omega) _).alloc (by simp; omega) _).alloc (by simp; omega) _
end Go.Proofs.YtmmbblfmhcegcaaGreat

namespace Go.Proofs.YtmmbblfmhcegcaaGreat
open Go.RowKit Go.Shelf

theorem right_asked {p : List Sp} {win : Int} (h : rightB p win = true) {k : Nat} {s : Sp} (hs : p[k]? = some s) : ∀ n ∈ asked s.cmps, 0 ≤ n := by
  simp only [rightB, Bool.and_eq_true, List.all_eq_true, Sp.ok] at h
  have hc := (h.2 s (List.mem_of_getElem? hs)).2
  intro n hn
  rw [mem_asked] at hn
  obtain ⟨c, hcm, hn⟩ := List.mem_flatMap.1 hn
  have hok := hc c hcm
  simp only [Cm.ok, Bool.and_eq_true, Tm.ok, decide_eq_true_eq] at hok
  obtain ⟨⟨-, h1⟩, h2⟩ := hok
  have key : ∀ t : Tm, 0 ≤ t.s → 0 ≤ t.r → n ∈ t.names → 0 ≤ n := by
    intro t h1 h2 h
    unfold Tm.names at h
    split at h
    · simp at h
    · split at h
      · simp at h
        rcases h with rfl | rfl <;> assumption
      · simp at h
        subst h
        assumption
  rcases List.mem_append.1 hn with h | h
  · exact key c.l h1.2.2.2.1 h1.2.2.2.2.2.1 h
  · exact key c.r h2.2.2.2.1 h2.2.2.2.2.2.1 h

section
variable {w : World} {g B L b : Nat} {p : List Sp} {win : Int}
theorem rule_at1 (h : RulesAt w g B L b p win) : Calls Tryz.prog 62 #[ptr B] w fun e w' => e = .returned (.int .i64 (broken p win 1)) ∧ Below w.heap.size w w' := by
  obtain ⟨sv, hb, hrd⟩ := h.pat.box
  obtain ⟨A, cap, -, -, rfl, -⟩ := hrd
  refine (rule1_any p.length win A cap B w (hb.cell 0) (hb.cell 1)).mono ?_
  rintro e w' ⟨rfl, rfl⟩
  exact ⟨rfl, Below.refl _ _⟩
theorem rule_at2 (h : RulesAt w g B L b p win) (hr : rightB p win = true) : Calls Tryz.prog 64 #[ptr B] w fun e w' => e = .returned (.int .i64 (broken p win 2)) ∧ Below w.heap.size w w' := by
  refine (rule2_any p win B w h.pat (right_parts hr).1).mono ?_
  rintro e w' ⟨rfl, rfl⟩
  exact ⟨rfl, Below.refl _ _⟩
theorem rule_at3 (h : RulesAt w g B L b p win) : Calls Tryz.prog 60 #[ptr B, ptr b] w fun e w' => e = .returned (.int .i64 (broken p win 3)) ∧ Below w.heap.size w w' := by
  obtain ⟨sv, hb, hrd⟩ := h.pat.box
  exact first3_any B b p (rule3 p) win sv w hb h.b3 hrd fun k s cv w1 _ _ _ => rule3_any _ _ _ _
theorem rule_at4 (h : RulesAt w g B L b p win) : Calls Tryz.prog 60 #[ptr B, ptr (b + 1)] w fun e w' => e = .returned (.int .i64 (broken p win 4)) ∧ Below w.heap.size w w' := by
  obtain ⟨sv, hb, hrd⟩ := h.pat.box
  exact first4_any B (b + 1) B p (rule4 p) win sv w hb h.b4 hrd fun k s cv w1 h1 hs _ => rule4_any p win k s cv B w1 (h.pat.below h1 (Nat.le_refl _)) hs
theorem rule_at5 (h : RulesAt w g B L b p win) : Calls Tryz.prog 60 #[ptr B, ptr (b + 1 + 1)] w fun e w' => e = .returned (.int .i64 (broken p win 5)) ∧ Below w.heap.size w w' := by
  obtain ⟨sv, hb, hrd⟩ := h.pat.box
  exact first5_any B (b + 1 + 1) p (rule5 p) win sv w hb h.b5 hrd fun k s cv w1 _ _ _ => rule5_any _ _ _ _
theorem rule_at6 (h : RulesAt w g B L b p win) : Calls Tryz.prog 68 #[ptr L] w fun e w' => e = .returned (.int .i64 (broken p win 6)) ∧ Below w.heap.size w w' := by
  refine (rule6_any (longF p) L w h.long.one).mono ?_
  rintro e w' ⟨rfl, rfl⟩
  exact ⟨rfl, Below.refl _ _⟩
theorem rule_at7 (h : RulesAt w g B L b p win) (hr : rightB p win = true) : Calls Tryz.prog 60 #[ptr B, ptr (b + 1 + 1 + 1)] w fun e w' => e = .returned (.int .i64 (broken p win 7)) ∧ Below w.heap.size w w' := by
  obtain ⟨sv, hb, hrd⟩ := h.pat.box
  exact first7_any B (b + 1 + 1 + 1) B p (rule7 p) win sv w hb h.b7 hrd fun k s cv w1 h1 hs hc => rule7_any p win k s cv B w1 (h.pat.below h1 (Nat.le_refl _)) hs hc (right_asked hr hs)
end
end Go.Proofs.YtmmbblfmhcegcaaGreat
