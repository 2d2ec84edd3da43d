/-
  Layer 4: order.Check.
-/
import Derived.Test.YtcipdimnbleljaaMv
import Derived.Test.YtcipdimnbleljaaTell
import Derived.Deep.RegionWith
namespace Go.Proofs.Ytcipdimnbleljaa
open Go.RowKit

theorem within_below (n a b : Int) (w : World) : Calls Try.prog 57 #[.int .i64 n, .int .i64 a, .int .i64 b] w fun e w' => e = .returned (.bool (decide (a ≤ n ∧ n ≤ b))) ∧ Below w.heap.size w w' :=
  (order_within n a b w).mono fun _ _ h => ⟨h.1, h.2 ▸ Below.refl _ _⟩

set_option maxHeartbeats 2000000 in
set_option maxRecDepth 100000 in
theorem check_fff (x0 x1 x2 x3 x4 x5 x6 x7 x8 x9 : Int) (b1 b3 b5 : Bool) (w : World)
    (p0 : ∀ w, Hid (Calls Try.prog 55 #[.agg #[.int .i64 x0, .int .i64 x1]] w fun e w' => e = .returned (.bool false) ∧ Below w.heap.size w w'))
    (p2 : ∀ w, Hid (Calls Try.prog 56 #[.agg #[.int .i64 x4, .int .i64 x5]] w fun e w' => e = .returned (.bool false) ∧ Below w.heap.size w w'))
    (p4 : ∀ w, Hid (Calls Try.prog 57 #[.int .i64 x8, .int .i64 1, .int .i64 1000] w fun e w' => e = .returned (.bool false) ∧ Below w.heap.size w w')) :
    Calls Try.prog 37 #[.agg #[.int .i64 x0, .int .i64 x1, .int .i64 x2, .int .i64 x3, .int .i64 x4, .int .i64 x5, .int .i64 x6, .int .i64 x7, .int .i64 x8, .int .i64 x9]] w fun e w' => e = .returned (.int .i64 (firstC (false && b1) (false && b3) (false && b5))) ∧ Below w.heap.size w w' := by
  have hB := Blk.new w #[.int .i64 x0, .int .i64 x1, .int .i64 x2, .int .i64 x3, .int .i64 x4, .int .i64 x5, .int .i64 x6, .int .i64 x7, .int .i64 x8, .int .i64 x9] 35
  have hM : Mod (fun _ => False) w (w.alloc (.cells #[.int .i64 x0, .int .i64 x1, .int .i64 x2, .int .i64 x3, .int .i64 x4, .int .i64 x5, .int .i64 x6, .int .i64 x7, .int .i64 x8, .int .i64 x9] 35)) := (Mod.refl _ _).alloc _
  have k0 : ∀ x : Later (fun _ => False) (w.alloc (.cells #[.int .i64 x0, .int .i64 x1, .int .i64 x2, .int .i64 x3, .int .i64 x4, .int .i64 x5, .int .i64 x6, .int .i64 x7, .int .i64 x8, .int .i64 x9] 35)), x.val.cell? ⟨w.heap.size, 0, none⟩ = some (.int .i64 x0) := fun x => x.cell (hB.cell (i := 0) rfl) (by simp)
  have k1 : ∀ x : Later (fun _ => False) (w.alloc (.cells #[.int .i64 x0, .int .i64 x1, .int .i64 x2, .int .i64 x3, .int .i64 x4, .int .i64 x5, .int .i64 x6, .int .i64 x7, .int .i64 x8, .int .i64 x9] 35)), x.val.cell? ⟨w.heap.size, 1, none⟩ = some (.int .i64 x1) := fun x => x.cell (hB.cell (i := 1) rfl) (by simp)
  have k4 : ∀ x : Later (fun _ => False) (w.alloc (.cells #[.int .i64 x0, .int .i64 x1, .int .i64 x2, .int .i64 x3, .int .i64 x4, .int .i64 x5, .int .i64 x6, .int .i64 x7, .int .i64 x8, .int .i64 x9] 35)), x.val.cell? ⟨w.heap.size, 4, none⟩ = some (.int .i64 x4) := fun x => x.cell (hB.cell (i := 4) rfl) (by simp)
  have k5 : ∀ x : Later (fun _ => False) (w.alloc (.cells #[.int .i64 x0, .int .i64 x1, .int .i64 x2, .int .i64 x3, .int .i64 x4, .int .i64 x5, .int .i64 x6, .int .i64 x7, .int .i64 x8, .int .i64 x9] 35)), x.val.cell? ⟨w.heap.size, 5, none⟩ = some (.int .i64 x5) := fun x => x.cell (hB.cell (i := 5) rfl) (by simp)
  have k8 : ∀ x : Later (fun _ => False) (w.alloc (.cells #[.int .i64 x0, .int .i64 x1, .int .i64 x2, .int .i64 x3, .int .i64 x4, .int .i64 x5, .int .i64 x6, .int .i64 x7, .int .i64 x8, .int .i64 x9] 35)), x.val.cell? ⟨w.heap.size, 8, none⟩ = some (.int .i64 x8) := fun x => x.cell (hB.cell (i := 8) rfl) (by simp)
  replace hB := Lib.hid hB
  go_enter Try.func37, Try.ntmps37
  go_wp2_with fail
  refine wp_region_then (C := fun w' => ∃ x : Later (fun _ => False) (w.alloc (.cells #[.int .i64 x0, .int .i64 x1, .int .i64 x2, .int .i64 x3, .int .i64 x4, .int .i64 x5, .int .i64 x6, .int .i64 x7, .int .i64 x8, .int .i64 x9] 35)), w' = x.val) 27 (by kernel_rfl) (by kernel_rfl) ⟨⟨_, (Mod.refl _ _).drew⟩, rfl⟩ ?_
  simp only [List.take_succ_cons, List.take_zero]
  repeat (go_big_quiet_step ((first | (go_at_call 55; with_reducible exact Calls.later (p0 _).out) | (go_at_call 56; with_reducible exact Calls.later (p2 _).out) | (go_at_call 57; with_reducible exact Calls.later (p4 _).out))))
  refine wpQuiet_nil ?_
  rintro _ ⟨x, rfl⟩
  refine wpAny_ready (rs := [27]) (by kernel_rfl) (by simp) ?_
  refine AllReady.cons rfl (fun K hK => ?_) AllReady.nil
  go_simp
  refine hK _ _ ?_
  clear hK K
  refine wpAny_ready (rs := [28]) (by kernel_rfl) (by simp) ?_
  refine AllReady.cons rfl (fun K hK => ?_) AllReady.nil
  go_simp
  refine (first_calls _ _ _ _ _ (Blk.new _ _ _)).mono ?_
  rintro e w2 ⟨rfl, hb2⟩
  refine hK _ _ ?_
  clear hK K
  refine wpAny_ready (rs := [29]) (by kernel_rfl) (by simp) ?_
  refine AllReady.cons rfl (fun K hK => ?_) AllReady.nil
  go_simp
  refine hK _ _ ?_
  clear hK K
  refine wpAny_done (by kernel_rfl) ?_ _
  go_wp2
  go_ret
  exact ⟨rfl, (((hM.trans x.mod).alloc _).after hb2).below (Nat.le_refl _) (fun _ h => h.elim)⟩

set_option maxHeartbeats 2000000 in
set_option maxRecDepth 100000 in
theorem check_fft (x0 x1 x2 x3 x4 x5 x6 x7 x8 x9 : Int) (b1 b3 b5 : Bool) (w : World)
    (p0 : ∀ w, Hid (Calls Try.prog 55 #[.agg #[.int .i64 x0, .int .i64 x1]] w fun e w' => e = .returned (.bool false) ∧ Below w.heap.size w w'))
    (p2 : ∀ w, Hid (Calls Try.prog 56 #[.agg #[.int .i64 x4, .int .i64 x5]] w fun e w' => e = .returned (.bool false) ∧ Below w.heap.size w w'))
    (p4 : ∀ w, Hid (Calls Try.prog 57 #[.int .i64 x8, .int .i64 1, .int .i64 1000] w fun e w' => e = .returned (.bool true) ∧ Below w.heap.size w w'))
    (p5 : ∀ w, Hid (Calls Try.prog 57 #[.int .i64 x9, .int .i64 0, .int .i64 1000] w fun e w' => e = .returned (.bool b5) ∧ Below w.heap.size w w')) :
    Calls Try.prog 37 #[.agg #[.int .i64 x0, .int .i64 x1, .int .i64 x2, .int .i64 x3, .int .i64 x4, .int .i64 x5, .int .i64 x6, .int .i64 x7, .int .i64 x8, .int .i64 x9]] w fun e w' => e = .returned (.int .i64 (firstC (false && b1) (false && b3) (true && b5))) ∧ Below w.heap.size w w' := by
  have hB := Blk.new w #[.int .i64 x0, .int .i64 x1, .int .i64 x2, .int .i64 x3, .int .i64 x4, .int .i64 x5, .int .i64 x6, .int .i64 x7, .int .i64 x8, .int .i64 x9] 35
  have hM : Mod (fun _ => False) w (w.alloc (.cells #[.int .i64 x0, .int .i64 x1, .int .i64 x2, .int .i64 x3, .int .i64 x4, .int .i64 x5, .int .i64 x6, .int .i64 x7, .int .i64 x8, .int .i64 x9] 35)) := (Mod.refl _ _).alloc _
  have k0 : ∀ x : Later (fun _ => False) (w.alloc (.cells #[.int .i64 x0, .int .i64 x1, .int .i64 x2, .int .i64 x3, .int .i64 x4, .int .i64 x5, .int .i64 x6, .int .i64 x7, .int .i64 x8, .int .i64 x9] 35)), x.val.cell? ⟨w.heap.size, 0, none⟩ = some (.int .i64 x0) := fun x => x.cell (hB.cell (i := 0) rfl) (by simp)
  have k1 : ∀ x : Later (fun _ => False) (w.alloc (.cells #[.int .i64 x0, .int .i64 x1, .int .i64 x2, .int .i64 x3, .int .i64 x4, .int .i64 x5, .int .i64 x6, .int .i64 x7, .int .i64 x8, .int .i64 x9] 35)), x.val.cell? ⟨w.heap.size, 1, none⟩ = some (.int .i64 x1) := fun x => x.cell (hB.cell (i := 1) rfl) (by simp)
  have k4 : ∀ x : Later (fun _ => False) (w.alloc (.cells #[.int .i64 x0, .int .i64 x1, .int .i64 x2, .int .i64 x3, .int .i64 x4, .int .i64 x5, .int .i64 x6, .int .i64 x7, .int .i64 x8, .int .i64 x9] 35)), x.val.cell? ⟨w.heap.size, 4, none⟩ = some (.int .i64 x4) := fun x => x.cell (hB.cell (i := 4) rfl) (by simp)
  have k5 : ∀ x : Later (fun _ => False) (w.alloc (.cells #[.int .i64 x0, .int .i64 x1, .int .i64 x2, .int .i64 x3, .int .i64 x4, .int .i64 x5, .int .i64 x6, .int .i64 x7, .int .i64 x8, .int .i64 x9] 35)), x.val.cell? ⟨w.heap.size, 5, none⟩ = some (.int .i64 x5) := fun x => x.cell (hB.cell (i := 5) rfl) (by simp)
  have k8 : ∀ x : Later (fun _ => False) (w.alloc (.cells #[.int .i64 x0, .int .i64 x1, .int .i64 x2, .int .i64 x3, .int .i64 x4, .int .i64 x5, .int .i64 x6, .int .i64 x7, .int .i64 x8, .int .i64 x9] 35)), x.val.cell? ⟨w.heap.size, 8, none⟩ = some (.int .i64 x8) := fun x => x.cell (hB.cell (i := 8) rfl) (by simp)
  have k9 : ∀ x : Later (fun _ => False) (w.alloc (.cells #[.int .i64 x0, .int .i64 x1, .int .i64 x2, .int .i64 x3, .int .i64 x4, .int .i64 x5, .int .i64 x6, .int .i64 x7, .int .i64 x8, .int .i64 x9] 35)), x.val.cell? ⟨w.heap.size, 9, none⟩ = some (.int .i64 x9) := fun x => x.cell (hB.cell (i := 9) rfl) (by simp)
  replace hB := Lib.hid hB
  go_enter Try.func37, Try.ntmps37
  go_wp2_with fail
  refine wp_region_then (C := fun w' => ∃ x : Later (fun _ => False) (w.alloc (.cells #[.int .i64 x0, .int .i64 x1, .int .i64 x2, .int .i64 x3, .int .i64 x4, .int .i64 x5, .int .i64 x6, .int .i64 x7, .int .i64 x8, .int .i64 x9] 35)), w' = x.val) 27 (by kernel_rfl) (by kernel_rfl) ⟨⟨_, (Mod.refl _ _).drew⟩, rfl⟩ ?_
  simp only [List.take_succ_cons, List.take_zero]
  repeat (go_big_quiet_step ((first | (go_at_call 55; with_reducible exact Calls.later (p0 _).out) | (go_at_call 56; with_reducible exact Calls.later (p2 _).out) | (go_at_call 57; with_reducible exact Calls.later (p4 _).out) | (go_at_call 57; with_reducible exact Calls.later (p5 _).out))))
  refine wpQuiet_nil ?_
  rintro _ ⟨x, rfl⟩
  refine wpAny_ready (rs := [27]) (by kernel_rfl) (by simp) ?_
  refine AllReady.cons rfl (fun K hK => ?_) AllReady.nil
  go_simp
  refine hK _ _ ?_
  clear hK K
  refine wpAny_ready (rs := [28]) (by kernel_rfl) (by simp) ?_
  refine AllReady.cons rfl (fun K hK => ?_) AllReady.nil
  go_simp
  refine (first_calls _ _ _ _ _ (Blk.new _ _ _)).mono ?_
  rintro e w2 ⟨rfl, hb2⟩
  refine hK _ _ ?_
  clear hK K
  refine wpAny_ready (rs := [29]) (by kernel_rfl) (by simp) ?_
  refine AllReady.cons rfl (fun K hK => ?_) AllReady.nil
  go_simp
  refine hK _ _ ?_
  clear hK K
  refine wpAny_done (by kernel_rfl) ?_ _
  go_wp2
  go_ret
  exact ⟨rfl, (((hM.trans x.mod).alloc _).after hb2).below (Nat.le_refl _) (fun _ h => h.elim)⟩

set_option maxHeartbeats 2000000 in
set_option maxRecDepth 100000 in
theorem check_ftf (x0 x1 x2 x3 x4 x5 x6 x7 x8 x9 : Int) (b1 b3 b5 : Bool) (w : World)
    (p0 : ∀ w, Hid (Calls Try.prog 55 #[.agg #[.int .i64 x0, .int .i64 x1]] w fun e w' => e = .returned (.bool false) ∧ Below w.heap.size w w'))
    (p2 : ∀ w, Hid (Calls Try.prog 56 #[.agg #[.int .i64 x4, .int .i64 x5]] w fun e w' => e = .returned (.bool true) ∧ Below w.heap.size w w'))
    (p3 : ∀ w, Hid (Calls Try.prog 56 #[.agg #[.int .i64 x6, .int .i64 x7]] w fun e w' => e = .returned (.bool b3) ∧ Below w.heap.size w w'))
    (p4 : ∀ w, Hid (Calls Try.prog 57 #[.int .i64 x8, .int .i64 1, .int .i64 1000] w fun e w' => e = .returned (.bool false) ∧ Below w.heap.size w w')) :
    Calls Try.prog 37 #[.agg #[.int .i64 x0, .int .i64 x1, .int .i64 x2, .int .i64 x3, .int .i64 x4, .int .i64 x5, .int .i64 x6, .int .i64 x7, .int .i64 x8, .int .i64 x9]] w fun e w' => e = .returned (.int .i64 (firstC (false && b1) (true && b3) (false && b5))) ∧ Below w.heap.size w w' := by
  have hB := Blk.new w #[.int .i64 x0, .int .i64 x1, .int .i64 x2, .int .i64 x3, .int .i64 x4, .int .i64 x5, .int .i64 x6, .int .i64 x7, .int .i64 x8, .int .i64 x9] 35
  have hM : Mod (fun _ => False) w (w.alloc (.cells #[.int .i64 x0, .int .i64 x1, .int .i64 x2, .int .i64 x3, .int .i64 x4, .int .i64 x5, .int .i64 x6, .int .i64 x7, .int .i64 x8, .int .i64 x9] 35)) := (Mod.refl _ _).alloc _
  have k0 : ∀ x : Later (fun _ => False) (w.alloc (.cells #[.int .i64 x0, .int .i64 x1, .int .i64 x2, .int .i64 x3, .int .i64 x4, .int .i64 x5, .int .i64 x6, .int .i64 x7, .int .i64 x8, .int .i64 x9] 35)), x.val.cell? ⟨w.heap.size, 0, none⟩ = some (.int .i64 x0) := fun x => x.cell (hB.cell (i := 0) rfl) (by simp)
  have k1 : ∀ x : Later (fun _ => False) (w.alloc (.cells #[.int .i64 x0, .int .i64 x1, .int .i64 x2, .int .i64 x3, .int .i64 x4, .int .i64 x5, .int .i64 x6, .int .i64 x7, .int .i64 x8, .int .i64 x9] 35)), x.val.cell? ⟨w.heap.size, 1, none⟩ = some (.int .i64 x1) := fun x => x.cell (hB.cell (i := 1) rfl) (by simp)
  have k4 : ∀ x : Later (fun _ => False) (w.alloc (.cells #[.int .i64 x0, .int .i64 x1, .int .i64 x2, .int .i64 x3, .int .i64 x4, .int .i64 x5, .int .i64 x6, .int .i64 x7, .int .i64 x8, .int .i64 x9] 35)), x.val.cell? ⟨w.heap.size, 4, none⟩ = some (.int .i64 x4) := fun x => x.cell (hB.cell (i := 4) rfl) (by simp)
  have k5 : ∀ x : Later (fun _ => False) (w.alloc (.cells #[.int .i64 x0, .int .i64 x1, .int .i64 x2, .int .i64 x3, .int .i64 x4, .int .i64 x5, .int .i64 x6, .int .i64 x7, .int .i64 x8, .int .i64 x9] 35)), x.val.cell? ⟨w.heap.size, 5, none⟩ = some (.int .i64 x5) := fun x => x.cell (hB.cell (i := 5) rfl) (by simp)
  have k6 : ∀ x : Later (fun _ => False) (w.alloc (.cells #[.int .i64 x0, .int .i64 x1, .int .i64 x2, .int .i64 x3, .int .i64 x4, .int .i64 x5, .int .i64 x6, .int .i64 x7, .int .i64 x8, .int .i64 x9] 35)), x.val.cell? ⟨w.heap.size, 6, none⟩ = some (.int .i64 x6) := fun x => x.cell (hB.cell (i := 6) rfl) (by simp)
  have k7 : ∀ x : Later (fun _ => False) (w.alloc (.cells #[.int .i64 x0, .int .i64 x1, .int .i64 x2, .int .i64 x3, .int .i64 x4, .int .i64 x5, .int .i64 x6, .int .i64 x7, .int .i64 x8, .int .i64 x9] 35)), x.val.cell? ⟨w.heap.size, 7, none⟩ = some (.int .i64 x7) := fun x => x.cell (hB.cell (i := 7) rfl) (by simp)
  have k8 : ∀ x : Later (fun _ => False) (w.alloc (.cells #[.int .i64 x0, .int .i64 x1, .int .i64 x2, .int .i64 x3, .int .i64 x4, .int .i64 x5, .int .i64 x6, .int .i64 x7, .int .i64 x8, .int .i64 x9] 35)), x.val.cell? ⟨w.heap.size, 8, none⟩ = some (.int .i64 x8) := fun x => x.cell (hB.cell (i := 8) rfl) (by simp)
  replace hB := Lib.hid hB
  go_enter Try.func37, Try.ntmps37
  go_wp2_with fail
  refine wp_region_then (C := fun w' => ∃ x : Later (fun _ => False) (w.alloc (.cells #[.int .i64 x0, .int .i64 x1, .int .i64 x2, .int .i64 x3, .int .i64 x4, .int .i64 x5, .int .i64 x6, .int .i64 x7, .int .i64 x8, .int .i64 x9] 35)), w' = x.val) 27 (by kernel_rfl) (by kernel_rfl) ⟨⟨_, (Mod.refl _ _).drew⟩, rfl⟩ ?_
  simp only [List.take_succ_cons, List.take_zero]
  repeat (go_big_quiet_step ((first | (go_at_call 55; with_reducible exact Calls.later (p0 _).out) | (go_at_call 56; with_reducible exact Calls.later (p2 _).out) | (go_at_call 56; with_reducible exact Calls.later (p3 _).out) | (go_at_call 57; with_reducible exact Calls.later (p4 _).out))))
  refine wpQuiet_nil ?_
  rintro _ ⟨x, rfl⟩
  refine wpAny_ready (rs := [27]) (by kernel_rfl) (by simp) ?_
  refine AllReady.cons rfl (fun K hK => ?_) AllReady.nil
  go_simp
  refine hK _ _ ?_
  clear hK K
  refine wpAny_ready (rs := [28]) (by kernel_rfl) (by simp) ?_
  refine AllReady.cons rfl (fun K hK => ?_) AllReady.nil
  go_simp
  refine (first_calls _ _ _ _ _ (Blk.new _ _ _)).mono ?_
  rintro e w2 ⟨rfl, hb2⟩
  refine hK _ _ ?_
  clear hK K
  refine wpAny_ready (rs := [29]) (by kernel_rfl) (by simp) ?_
  refine AllReady.cons rfl (fun K hK => ?_) AllReady.nil
  go_simp
  refine hK _ _ ?_
  clear hK K
  refine wpAny_done (by kernel_rfl) ?_ _
  go_wp2
  go_ret
  exact ⟨rfl, (((hM.trans x.mod).alloc _).after hb2).below (Nat.le_refl _) (fun _ h => h.elim)⟩

set_option maxHeartbeats 2000000 in
set_option maxRecDepth 100000 in
theorem check_ftt (x0 x1 x2 x3 x4 x5 x6 x7 x8 x9 : Int) (b1 b3 b5 : Bool) (w : World)
    (p0 : ∀ w, Hid (Calls Try.prog 55 #[.agg #[.int .i64 x0, .int .i64 x1]] w fun e w' => e = .returned (.bool false) ∧ Below w.heap.size w w'))
    (p2 : ∀ w, Hid (Calls Try.prog 56 #[.agg #[.int .i64 x4, .int .i64 x5]] w fun e w' => e = .returned (.bool true) ∧ Below w.heap.size w w'))
    (p3 : ∀ w, Hid (Calls Try.prog 56 #[.agg #[.int .i64 x6, .int .i64 x7]] w fun e w' => e = .returned (.bool b3) ∧ Below w.heap.size w w'))
    (p4 : ∀ w, Hid (Calls Try.prog 57 #[.int .i64 x8, .int .i64 1, .int .i64 1000] w fun e w' => e = .returned (.bool true) ∧ Below w.heap.size w w'))
    (p5 : ∀ w, Hid (Calls Try.prog 57 #[.int .i64 x9, .int .i64 0, .int .i64 1000] w fun e w' => e = .returned (.bool b5) ∧ Below w.heap.size w w')) :
    Calls Try.prog 37 #[.agg #[.int .i64 x0, .int .i64 x1, .int .i64 x2, .int .i64 x3, .int .i64 x4, .int .i64 x5, .int .i64 x6, .int .i64 x7, .int .i64 x8, .int .i64 x9]] w fun e w' => e = .returned (.int .i64 (firstC (false && b1) (true && b3) (true && b5))) ∧ Below w.heap.size w w' := by
  have hB := Blk.new w #[.int .i64 x0, .int .i64 x1, .int .i64 x2, .int .i64 x3, .int .i64 x4, .int .i64 x5, .int .i64 x6, .int .i64 x7, .int .i64 x8, .int .i64 x9] 35
  have hM : Mod (fun _ => False) w (w.alloc (.cells #[.int .i64 x0, .int .i64 x1, .int .i64 x2, .int .i64 x3, .int .i64 x4, .int .i64 x5, .int .i64 x6, .int .i64 x7, .int .i64 x8, .int .i64 x9] 35)) := (Mod.refl _ _).alloc _
  have k0 : ∀ x : Later (fun _ => False) (w.alloc (.cells #[.int .i64 x0, .int .i64 x1, .int .i64 x2, .int .i64 x3, .int .i64 x4, .int .i64 x5, .int .i64 x6, .int .i64 x7, .int .i64 x8, .int .i64 x9] 35)), x.val.cell? ⟨w.heap.size, 0, none⟩ = some (.int .i64 x0) := fun x => x.cell (hB.cell (i := 0) rfl) (by simp)
  have k1 : ∀ x : Later (fun _ => False) (w.alloc (.cells #[.int .i64 x0, .int .i64 x1, .int .i64 x2, .int .i64 x3, .int .i64 x4, .int .i64 x5, .int .i64 x6, .int .i64 x7, .int .i64 x8, .int .i64 x9] 35)), x.val.cell? ⟨w.heap.size, 1, none⟩ = some (.int .i64 x1) := fun x => x.cell (hB.cell (i := 1) rfl) (by simp)
  have k4 : ∀ x : Later (fun _ => False) (w.alloc (.cells #[.int .i64 x0, .int .i64 x1, .int .i64 x2, .int .i64 x3, .int .i64 x4, .int .i64 x5, .int .i64 x6, .int .i64 x7, .int .i64 x8, .int .i64 x9] 35)), x.val.cell? ⟨w.heap.size, 4, none⟩ = some (.int .i64 x4) := fun x => x.cell (hB.cell (i := 4) rfl) (by simp)
  have k5 : ∀ x : Later (fun _ => False) (w.alloc (.cells #[.int .i64 x0, .int .i64 x1, .int .i64 x2, .int .i64 x3, .int .i64 x4, .int .i64 x5, .int .i64 x6, .int .i64 x7, .int .i64 x8, .int .i64 x9] 35)), x.val.cell? ⟨w.heap.size, 5, none⟩ = some (.int .i64 x5) := fun x => x.cell (hB.cell (i := 5) rfl) (by simp)
  have k6 : ∀ x : Later (fun _ => False) (w.alloc (.cells #[.int .i64 x0, .int .i64 x1, .int .i64 x2, .int .i64 x3, .int .i64 x4, .int .i64 x5, .int .i64 x6, .int .i64 x7, .int .i64 x8, .int .i64 x9] 35)), x.val.cell? ⟨w.heap.size, 6, none⟩ = some (.int .i64 x6) := fun x => x.cell (hB.cell (i := 6) rfl) (by simp)
  have k7 : ∀ x : Later (fun _ => False) (w.alloc (.cells #[.int .i64 x0, .int .i64 x1, .int .i64 x2, .int .i64 x3, .int .i64 x4, .int .i64 x5, .int .i64 x6, .int .i64 x7, .int .i64 x8, .int .i64 x9] 35)), x.val.cell? ⟨w.heap.size, 7, none⟩ = some (.int .i64 x7) := fun x => x.cell (hB.cell (i := 7) rfl) (by simp)
  have k8 : ∀ x : Later (fun _ => False) (w.alloc (.cells #[.int .i64 x0, .int .i64 x1, .int .i64 x2, .int .i64 x3, .int .i64 x4, .int .i64 x5, .int .i64 x6, .int .i64 x7, .int .i64 x8, .int .i64 x9] 35)), x.val.cell? ⟨w.heap.size, 8, none⟩ = some (.int .i64 x8) := fun x => x.cell (hB.cell (i := 8) rfl) (by simp)
  have k9 : ∀ x : Later (fun _ => False) (w.alloc (.cells #[.int .i64 x0, .int .i64 x1, .int .i64 x2, .int .i64 x3, .int .i64 x4, .int .i64 x5, .int .i64 x6, .int .i64 x7, .int .i64 x8, .int .i64 x9] 35)), x.val.cell? ⟨w.heap.size, 9, none⟩ = some (.int .i64 x9) := fun x => x.cell (hB.cell (i := 9) rfl) (by simp)
  replace hB := Lib.hid hB
  go_enter Try.func37, Try.ntmps37
  go_wp2_with fail
  refine wp_region_then (C := fun w' => ∃ x : Later (fun _ => False) (w.alloc (.cells #[.int .i64 x0, .int .i64 x1, .int .i64 x2, .int .i64 x3, .int .i64 x4, .int .i64 x5, .int .i64 x6, .int .i64 x7, .int .i64 x8, .int .i64 x9] 35)), w' = x.val) 27 (by kernel_rfl) (by kernel_rfl) ⟨⟨_, (Mod.refl _ _).drew⟩, rfl⟩ ?_
  simp only [List.take_succ_cons, List.take_zero]
  repeat (go_big_quiet_step ((first | (go_at_call 55; with_reducible exact Calls.later (p0 _).out) | (go_at_call 56; with_reducible exact Calls.later (p2 _).out) | (go_at_call 56; with_reducible exact Calls.later (p3 _).out) | (go_at_call 57; with_reducible exact Calls.later (p4 _).out) | (go_at_call 57; with_reducible exact Calls.later (p5 _).out))))
  refine wpQuiet_nil ?_
  rintro _ ⟨x, rfl⟩
  refine wpAny_ready (rs := [27]) (by kernel_rfl) (by simp) ?_
  refine AllReady.cons rfl (fun K hK => ?_) AllReady.nil
  go_simp
  refine hK _ _ ?_
  clear hK K
  refine wpAny_ready (rs := [28]) (by kernel_rfl) (by simp) ?_
  refine AllReady.cons rfl (fun K hK => ?_) AllReady.nil
  go_simp
  refine (first_calls _ _ _ _ _ (Blk.new _ _ _)).mono ?_
  rintro e w2 ⟨rfl, hb2⟩
  refine hK _ _ ?_
  clear hK K
  refine wpAny_ready (rs := [29]) (by kernel_rfl) (by simp) ?_
  refine AllReady.cons rfl (fun K hK => ?_) AllReady.nil
  go_simp
  refine hK _ _ ?_
  clear hK K
  refine wpAny_done (by kernel_rfl) ?_ _
  go_wp2
  go_ret
  exact ⟨rfl, (((hM.trans x.mod).alloc _).after hb2).below (Nat.le_refl _) (fun _ h => h.elim)⟩

set_option maxHeartbeats 2000000 in
set_option maxRecDepth 100000 in
theorem check_tff (x0 x1 x2 x3 x4 x5 x6 x7 x8 x9 : Int) (b1 b3 b5 : Bool) (w : World)
    (p0 : ∀ w, Hid (Calls Try.prog 55 #[.agg #[.int .i64 x0, .int .i64 x1]] w fun e w' => e = .returned (.bool true) ∧ Below w.heap.size w w'))
    (p1 : ∀ w, Hid (Calls Try.prog 55 #[.agg #[.int .i64 x2, .int .i64 x3]] w fun e w' => e = .returned (.bool b1) ∧ Below w.heap.size w w'))
    (p2 : ∀ w, Hid (Calls Try.prog 56 #[.agg #[.int .i64 x4, .int .i64 x5]] w fun e w' => e = .returned (.bool false) ∧ Below w.heap.size w w'))
    (p4 : ∀ w, Hid (Calls Try.prog 57 #[.int .i64 x8, .int .i64 1, .int .i64 1000] w fun e w' => e = .returned (.bool false) ∧ Below w.heap.size w w')) :
    Calls Try.prog 37 #[.agg #[.int .i64 x0, .int .i64 x1, .int .i64 x2, .int .i64 x3, .int .i64 x4, .int .i64 x5, .int .i64 x6, .int .i64 x7, .int .i64 x8, .int .i64 x9]] w fun e w' => e = .returned (.int .i64 (firstC (true && b1) (false && b3) (false && b5))) ∧ Below w.heap.size w w' := by
  have hB := Blk.new w #[.int .i64 x0, .int .i64 x1, .int .i64 x2, .int .i64 x3, .int .i64 x4, .int .i64 x5, .int .i64 x6, .int .i64 x7, .int .i64 x8, .int .i64 x9] 35
  have hM : Mod (fun _ => False) w (w.alloc (.cells #[.int .i64 x0, .int .i64 x1, .int .i64 x2, .int .i64 x3, .int .i64 x4, .int .i64 x5, .int .i64 x6, .int .i64 x7, .int .i64 x8, .int .i64 x9] 35)) := (Mod.refl _ _).alloc _
  have k0 : ∀ x : Later (fun _ => False) (w.alloc (.cells #[.int .i64 x0, .int .i64 x1, .int .i64 x2, .int .i64 x3, .int .i64 x4, .int .i64 x5, .int .i64 x6, .int .i64 x7, .int .i64 x8, .int .i64 x9] 35)), x.val.cell? ⟨w.heap.size, 0, none⟩ = some (.int .i64 x0) := fun x => x.cell (hB.cell (i := 0) rfl) (by simp)
  have k1 : ∀ x : Later (fun _ => False) (w.alloc (.cells #[.int .i64 x0, .int .i64 x1, .int .i64 x2, .int .i64 x3, .int .i64 x4, .int .i64 x5, .int .i64 x6, .int .i64 x7, .int .i64 x8, .int .i64 x9] 35)), x.val.cell? ⟨w.heap.size, 1, none⟩ = some (.int .i64 x1) := fun x => x.cell (hB.cell (i := 1) rfl) (by simp)
  have k2 : ∀ x : Later (fun _ => False) (w.alloc (.cells #[.int .i64 x0, .int .i64 x1, .int .i64 x2, .int .i64 x3, .int .i64 x4, .int .i64 x5, .int .i64 x6, .int .i64 x7, .int .i64 x8, .int .i64 x9] 35)), x.val.cell? ⟨w.heap.size, 2, none⟩ = some (.int .i64 x2) := fun x => x.cell (hB.cell (i := 2) rfl) (by simp)
  have k3 : ∀ x : Later (fun _ => False) (w.alloc (.cells #[.int .i64 x0, .int .i64 x1, .int .i64 x2, .int .i64 x3, .int .i64 x4, .int .i64 x5, .int .i64 x6, .int .i64 x7, .int .i64 x8, .int .i64 x9] 35)), x.val.cell? ⟨w.heap.size, 3, none⟩ = some (.int .i64 x3) := fun x => x.cell (hB.cell (i := 3) rfl) (by simp)
  have k4 : ∀ x : Later (fun _ => False) (w.alloc (.cells #[.int .i64 x0, .int .i64 x1, .int .i64 x2, .int .i64 x3, .int .i64 x4, .int .i64 x5, .int .i64 x6, .int .i64 x7, .int .i64 x8, .int .i64 x9] 35)), x.val.cell? ⟨w.heap.size, 4, none⟩ = some (.int .i64 x4) := fun x => x.cell (hB.cell (i := 4) rfl) (by simp)
  have k5 : ∀ x : Later (fun _ => False) (w.alloc (.cells #[.int .i64 x0, .int .i64 x1, .int .i64 x2, .int .i64 x3, .int .i64 x4, .int .i64 x5, .int .i64 x6, .int .i64 x7, .int .i64 x8, .int .i64 x9] 35)), x.val.cell? ⟨w.heap.size, 5, none⟩ = some (.int .i64 x5) := fun x => x.cell (hB.cell (i := 5) rfl) (by simp)
  have k8 : ∀ x : Later (fun _ => False) (w.alloc (.cells #[.int .i64 x0, .int .i64 x1, .int .i64 x2, .int .i64 x3, .int .i64 x4, .int .i64 x5, .int .i64 x6, .int .i64 x7, .int .i64 x8, .int .i64 x9] 35)), x.val.cell? ⟨w.heap.size, 8, none⟩ = some (.int .i64 x8) := fun x => x.cell (hB.cell (i := 8) rfl) (by simp)
  replace hB := Lib.hid hB
  go_enter Try.func37, Try.ntmps37
  go_wp2_with fail
  refine wp_region_then (C := fun w' => ∃ x : Later (fun _ => False) (w.alloc (.cells #[.int .i64 x0, .int .i64 x1, .int .i64 x2, .int .i64 x3, .int .i64 x4, .int .i64 x5, .int .i64 x6, .int .i64 x7, .int .i64 x8, .int .i64 x9] 35)), w' = x.val) 27 (by kernel_rfl) (by kernel_rfl) ⟨⟨_, (Mod.refl _ _).drew⟩, rfl⟩ ?_
  simp only [List.take_succ_cons, List.take_zero]
  repeat (go_big_quiet_step ((first | (go_at_call 55; with_reducible exact Calls.later (p0 _).out) | (go_at_call 55; with_reducible exact Calls.later (p1 _).out) | (go_at_call 56; with_reducible exact Calls.later (p2 _).out) | (go_at_call 57; with_reducible exact Calls.later (p4 _).out))))
  refine wpQuiet_nil ?_
  rintro _ ⟨x, rfl⟩
  refine wpAny_ready (rs := [27]) (by kernel_rfl) (by simp) ?_
  refine AllReady.cons rfl (fun K hK => ?_) AllReady.nil
  go_simp
  refine hK _ _ ?_
  clear hK K
  refine wpAny_ready (rs := [28]) (by kernel_rfl) (by simp) ?_
  refine AllReady.cons rfl (fun K hK => ?_) AllReady.nil
  go_simp
  refine (first_calls _ _ _ _ _ (Blk.new _ _ _)).mono ?_
  rintro e w2 ⟨rfl, hb2⟩
  refine hK _ _ ?_
  clear hK K
  refine wpAny_ready (rs := [29]) (by kernel_rfl) (by simp) ?_
  refine AllReady.cons rfl (fun K hK => ?_) AllReady.nil
  go_simp
  refine hK _ _ ?_
  clear hK K
  refine wpAny_done (by kernel_rfl) ?_ _
  go_wp2
  go_ret
  exact ⟨rfl, (((hM.trans x.mod).alloc _).after hb2).below (Nat.le_refl _) (fun _ h => h.elim)⟩

set_option maxHeartbeats 2000000 in
set_option maxRecDepth 100000 in
theorem check_tft (x0 x1 x2 x3 x4 x5 x6 x7 x8 x9 : Int) (b1 b3 b5 : Bool) (w : World)
    (p0 : ∀ w, Hid (Calls Try.prog 55 #[.agg #[.int .i64 x0, .int .i64 x1]] w fun e w' => e = .returned (.bool true) ∧ Below w.heap.size w w'))
    (p1 : ∀ w, Hid (Calls Try.prog 55 #[.agg #[.int .i64 x2, .int .i64 x3]] w fun e w' => e = .returned (.bool b1) ∧ Below w.heap.size w w'))
    (p2 : ∀ w, Hid (Calls Try.prog 56 #[.agg #[.int .i64 x4, .int .i64 x5]] w fun e w' => e = .returned (.bool false) ∧ Below w.heap.size w w'))
    (p4 : ∀ w, Hid (Calls Try.prog 57 #[.int .i64 x8, .int .i64 1, .int .i64 1000] w fun e w' => e = .returned (.bool true) ∧ Below w.heap.size w w'))
    (p5 : ∀ w, Hid (Calls Try.prog 57 #[.int .i64 x9, .int .i64 0, .int .i64 1000] w fun e w' => e = .returned (.bool b5) ∧ Below w.heap.size w w')) :
    Calls Try.prog 37 #[.agg #[.int .i64 x0, .int .i64 x1, .int .i64 x2, .int .i64 x3, .int .i64 x4, .int .i64 x5, .int .i64 x6, .int .i64 x7, .int .i64 x8, .int .i64 x9]] w fun e w' => e = .returned (.int .i64 (firstC (true && b1) (false && b3) (true && b5))) ∧ Below w.heap.size w w' := by
  have hB := Blk.new w #[.int .i64 x0, .int .i64 x1, .int .i64 x2, .int .i64 x3, .int .i64 x4, .int .i64 x5, .int .i64 x6, .int .i64 x7, .int .i64 x8, .int .i64 x9] 35
  have hM : Mod (fun _ => False) w (w.alloc (.cells #[.int .i64 x0, .int .i64 x1, .int .i64 x2, .int .i64 x3, .int .i64 x4, .int .i64 x5, .int .i64 x6, .int .i64 x7, .int .i64 x8, .int .i64 x9] 35)) := (Mod.refl _ _).alloc _
  have k0 : ∀ x : Later (fun _ => False) (w.alloc (.cells #[.int .i64 x0, .int .i64 x1, .int .i64 x2, .int .i64 x3, .int .i64 x4, .int .i64 x5, .int .i64 x6, .int .i64 x7, .int .i64 x8, .int .i64 x9] 35)), x.val.cell? ⟨w.heap.size, 0, none⟩ = some (.int .i64 x0) := fun x => x.cell (hB.cell (i := 0) rfl) (by simp)
  have k1 : ∀ x : Later (fun _ => False) (w.alloc (.cells #[.int .i64 x0, .int .i64 x1, .int .i64 x2, .int .i64 x3, .int .i64 x4, .int .i64 x5, .int .i64 x6, .int .i64 x7, .int .i64 x8, .int .i64 x9] 35)), x.val.cell? ⟨w.heap.size, 1, none⟩ = some (.int .i64 x1) := fun x => x.cell (hB.cell (i := 1) rfl) (by simp)
  have k2 : ∀ x : Later (fun _ => False) (w.alloc (.cells #[.int .i64 x0, .int .i64 x1, .int .i64 x2, .int .i64 x3, .int .i64 x4, .int .i64 x5, .int .i64 x6, .int .i64 x7, .int .i64 x8, .int .i64 x9] 35)), x.val.cell? ⟨w.heap.size, 2, none⟩ = some (.int .i64 x2) := fun x => x.cell (hB.cell (i := 2) rfl) (by simp)
  have k3 : ∀ x : Later (fun _ => False) (w.alloc (.cells #[.int .i64 x0, .int .i64 x1, .int .i64 x2, .int .i64 x3, .int .i64 x4, .int .i64 x5, .int .i64 x6, .int .i64 x7, .int .i64 x8, .int .i64 x9] 35)), x.val.cell? ⟨w.heap.size, 3, none⟩ = some (.int .i64 x3) := fun x => x.cell (hB.cell (i := 3) rfl) (by simp)
  have k4 : ∀ x : Later (fun _ => False) (w.alloc (.cells #[.int .i64 x0, .int .i64 x1, .int .i64 x2, .int .i64 x3, .int .i64 x4, .int .i64 x5, .int .i64 x6, .int .i64 x7, .int .i64 x8, .int .i64 x9] 35)), x.val.cell? ⟨w.heap.size, 4, none⟩ = some (.int .i64 x4) := fun x => x.cell (hB.cell (i := 4) rfl) (by simp)
  have k5 : ∀ x : Later (fun _ => False) (w.alloc (.cells #[.int .i64 x0, .int .i64 x1, .int .i64 x2, .int .i64 x3, .int .i64 x4, .int .i64 x5, .int .i64 x6, .int .i64 x7, .int .i64 x8, .int .i64 x9] 35)), x.val.cell? ⟨w.heap.size, 5, none⟩ = some (.int .i64 x5) := fun x => x.cell (hB.cell (i := 5) rfl) (by simp)
  have k8 : ∀ x : Later (fun _ => False) (w.alloc (.cells #[.int .i64 x0, .int .i64 x1, .int .i64 x2, .int .i64 x3, .int .i64 x4, .int .i64 x5, .int .i64 x6, .int .i64 x7, .int .i64 x8, .int .i64 x9] 35)), x.val.cell? ⟨w.heap.size, 8, none⟩ = some (.int .i64 x8) := fun x => x.cell (hB.cell (i := 8) rfl) (by simp)
  have k9 : ∀ x : Later (fun _ => False) (w.alloc (.cells #[.int .i64 x0, .int .i64 x1, .int .i64 x2, .int .i64 x3, .int .i64 x4, .int .i64 x5, .int .i64 x6, .int .i64 x7, .int .i64 x8, .int .i64 x9] 35)), x.val.cell? ⟨w.heap.size, 9, none⟩ = some (.int .i64 x9) := fun x => x.cell (hB.cell (i := 9) rfl) (by simp)
  replace hB := Lib.hid hB
  go_enter Try.func37, Try.ntmps37
  go_wp2_with fail
  refine wp_region_then (C := fun w' => ∃ x : Later (fun _ => False) (w.alloc (.cells #[.int .i64 x0, .int .i64 x1, .int .i64 x2, .int .i64 x3, .int .i64 x4, .int .i64 x5, .int .i64 x6, .int .i64 x7, .int .i64 x8, .int .i64 x9] 35)), w' = x.val) 27 (by kernel_rfl) (by kernel_rfl) ⟨⟨_, (Mod.refl _ _).drew⟩, rfl⟩ ?_
  simp only [List.take_succ_cons, List.take_zero]
  repeat (go_big_quiet_step ((first | (go_at_call 55; with_reducible exact Calls.later (p0 _).out) | (go_at_call 55; with_reducible exact Calls.later (p1 _).out) | (go_at_call 56; with_reducible exact Calls.later (p2 _).out) | (go_at_call 57; with_reducible exact Calls.later (p4 _).out) | (go_at_call 57; with_reducible exact Calls.later (p5 _).out))))
  refine wpQuiet_nil ?_
  rintro _ ⟨x, rfl⟩
  refine wpAny_ready (rs := [27]) (by kernel_rfl) (by simp) ?_
  refine AllReady.cons rfl (fun K hK => ?_) AllReady.nil
  go_simp
  refine hK _ _ ?_
  clear hK K
  refine wpAny_ready (rs := [28]) (by kernel_rfl) (by simp) ?_
  refine AllReady.cons rfl (fun K hK => ?_) AllReady.nil
  go_simp
  refine (first_calls _ _ _ _ _ (Blk.new _ _ _)).mono ?_
  rintro e w2 ⟨rfl, hb2⟩
  refine hK _ _ ?_
  clear hK K
  refine wpAny_ready (rs := [29]) (by kernel_rfl) (by simp) ?_
  refine AllReady.cons rfl (fun K hK => ?_) AllReady.nil
  go_simp
  refine hK _ _ ?_
  clear hK K
  refine wpAny_done (by kernel_rfl) ?_ _
  go_wp2
  go_ret
  exact ⟨rfl, (((hM.trans x.mod).alloc _).after hb2).below (Nat.le_refl _) (fun _ h => h.elim)⟩

set_option maxHeartbeats 2000000 in
set_option maxRecDepth 100000 in
theorem check_ttf (x0 x1 x2 x3 x4 x5 x6 x7 x8 x9 : Int) (b1 b3 b5 : Bool) (w : World)
    (p0 : ∀ w, Hid (Calls Try.prog 55 #[.agg #[.int .i64 x0, .int .i64 x1]] w fun e w' => e = .returned (.bool true) ∧ Below w.heap.size w w'))
    (p1 : ∀ w, Hid (Calls Try.prog 55 #[.agg #[.int .i64 x2, .int .i64 x3]] w fun e w' => e = .returned (.bool b1) ∧ Below w.heap.size w w'))
    (p2 : ∀ w, Hid (Calls Try.prog 56 #[.agg #[.int .i64 x4, .int .i64 x5]] w fun e w' => e = .returned (.bool true) ∧ Below w.heap.size w w'))
    (p3 : ∀ w, Hid (Calls Try.prog 56 #[.agg #[.int .i64 x6, .int .i64 x7]] w fun e w' => e = .returned (.bool b3) ∧ Below w.heap.size w w'))
    (p4 : ∀ w, Hid (Calls Try.prog 57 #[.int .i64 x8, .int .i64 1, .int .i64 1000] w fun e w' => e = .returned (.bool false) ∧ Below w.heap.size w w')) :
    Calls Try.prog 37 #[.agg #[.int .i64 x0, .int .i64 x1, .int .i64 x2, .int .i64 x3, .int .i64 x4, .int .i64 x5, .int .i64 x6, .int .i64 x7, .int .i64 x8, .int .i64 x9]] w fun e w' => e = .returned (.int .i64 (firstC (true && b1) (true && b3) (false && b5))) ∧ Below w.heap.size w w' := by
  have hB := Blk.new w #[.int .i64 x0, .int .i64 x1, .int .i64 x2, .int .i64 x3, .int .i64 x4, .int .i64 x5, .int .i64 x6, .int .i64 x7, .int .i64 x8, .int .i64 x9] 35
  have hM : Mod (fun _ => False) w (w.alloc (.cells #[.int .i64 x0, .int .i64 x1, .int .i64 x2, .int .i64 x3, .int .i64 x4, .int .i64 x5, .int .i64 x6, .int .i64 x7, .int .i64 x8, .int .i64 x9] 35)) := (Mod.refl _ _).alloc _
  have k0 : ∀ x : Later (fun _ => False) (w.alloc (.cells #[.int .i64 x0, .int .i64 x1, .int .i64 x2, .int .i64 x3, .int .i64 x4, .int .i64 x5, .int .i64 x6, .int .i64 x7, .int .i64 x8, .int .i64 x9] 35)), x.val.cell? ⟨w.heap.size, 0, none⟩ = some (.int .i64 x0) := fun x => x.cell (hB.cell (i := 0) rfl) (by simp)
  have k1 : ∀ x : Later (fun _ => False) (w.alloc (.cells #[.int .i64 x0, .int .i64 x1, .int .i64 x2, .int .i64 x3, .int .i64 x4, .int .i64 x5, .int .i64 x6, .int .i64 x7, .int .i64 x8, .int .i64 x9] 35)), x.val.cell? ⟨w.heap.size, 1, none⟩ = some (.int .i64 x1) := fun x => x.cell (hB.cell (i := 1) rfl) (by simp)
  have k2 : ∀ x : Later (fun _ => False) (w.alloc (.cells #[.int .i64 x0, .int .i64 x1, .int .i64 x2, .int .i64 x3, .int .i64 x4, .int .i64 x5, .int .i64 x6, .int .i64 x7, .int .i64 x8, .int .i64 x9] 35)), x.val.cell? ⟨w.heap.size, 2, none⟩ = some (.int .i64 x2) := fun x => x.cell (hB.cell (i := 2) rfl) (by simp)
  have k3 : ∀ x : Later (fun _ => False) (w.alloc (.cells #[.int .i64 x0, .int .i64 x1, .int .i64 x2, .int .i64 x3, .int .i64 x4, .int .i64 x5, .int .i64 x6, .int .i64 x7, .int .i64 x8, .int .i64 x9] 35)), x.val.cell? ⟨w.heap.size, 3, none⟩ = some (.int .i64 x3) := fun x => x.cell (hB.cell (i := 3) rfl) (by simp)
  have k4 : ∀ x : Later (fun _ => False) (w.alloc (.cells #[.int .i64 x0, .int .i64 x1, .int .i64 x2, .int .i64 x3, .int .i64 x4, .int .i64 x5, .int .i64 x6, .int .i64 x7, .int .i64 x8, .int .i64 x9] 35)), x.val.cell? ⟨w.heap.size, 4, none⟩ = some (.int .i64 x4) := fun x => x.cell (hB.cell (i := 4) rfl) (by simp)
  have k5 : ∀ x : Later (fun _ => False) (w.alloc (.cells #[.int .i64 x0, .int .i64 x1, .int .i64 x2, .int .i64 x3, .int .i64 x4, .int .i64 x5, .int .i64 x6, .int .i64 x7, .int .i64 x8, .int .i64 x9] 35)), x.val.cell? ⟨w.heap.size, 5, none⟩ = some (.int .i64 x5) := fun x => x.cell (hB.cell (i := 5) rfl) (by simp)
  have k6 : ∀ x : Later (fun _ => False) (w.alloc (.cells #[.int .i64 x0, .int .i64 x1, .int .i64 x2, .int .i64 x3, .int .i64 x4, .int .i64 x5, .int .i64 x6, .int .i64 x7, .int .i64 x8, .int .i64 x9] 35)), x.val.cell? ⟨w.heap.size, 6, none⟩ = some (.int .i64 x6) := fun x => x.cell (hB.cell (i := 6) rfl) (by simp)
  have k7 : ∀ x : Later (fun _ => False) (w.alloc (.cells #[.int .i64 x0, .int .i64 x1, .int .i64 x2, .int .i64 x3, .int .i64 x4, .int .i64 x5, .int .i64 x6, .int .i64 x7, .int .i64 x8, .int .i64 x9] 35)), x.val.cell? ⟨w.heap.size, 7, none⟩ = some (.int .i64 x7) := fun x => x.cell (hB.cell (i := 7) rfl) (by simp)
  have k8 : ∀ x : Later (fun _ => False) (w.alloc (.cells #[.int .i64 x0, .int .i64 x1, .int .i64 x2, .int .i64 x3, .int .i64 x4, .int .i64 x5, .int .i64 x6, .int .i64 x7, .int .i64 x8, .int .i64 x9] 35)), x.val.cell? ⟨w.heap.size, 8, none⟩ = some (.int .i64 x8) := fun x => x.cell (hB.cell (i := 8) rfl) (by simp)
  replace hB := Lib.hid hB
  go_enter Try.func37, Try.ntmps37
  go_wp2_with fail
  refine wp_region_then (C := fun w' => ∃ x : Later (fun _ => False) (w.alloc (.cells #[.int .i64 x0, .int .i64 x1, .int .i64 x2, .int .i64 x3, .int .i64 x4, .int .i64 x5, .int .i64 x6, .int .i64 x7, .int .i64 x8, .int .i64 x9] 35)), w' = x.val) 27 (by kernel_rfl) (by kernel_rfl) ⟨⟨_, (Mod.refl _ _).drew⟩, rfl⟩ ?_
  simp only [List.take_succ_cons, List.take_zero]
  repeat (go_big_quiet_step ((first | (go_at_call 55; with_reducible exact Calls.later (p0 _).out) | (go_at_call 55; with_reducible exact Calls.later (p1 _).out) | (go_at_call 56; with_reducible exact Calls.later (p2 _).out) | (go_at_call 56; with_reducible exact Calls.later (p3 _).out) | (go_at_call 57; with_reducible exact Calls.later (p4 _).out))))
  refine wpQuiet_nil ?_
  rintro _ ⟨x, rfl⟩
  refine wpAny_ready (rs := [27]) (by kernel_rfl) (by simp) ?_
  refine AllReady.cons rfl (fun K hK => ?_) AllReady.nil
  go_simp
  refine hK _ _ ?_
  clear hK K
  refine wpAny_ready (rs := [28]) (by kernel_rfl) (by simp) ?_
  refine AllReady.cons rfl (fun K hK => ?_) AllReady.nil
  go_simp
  refine (first_calls _ _ _ _ _ (Blk.new _ _ _)).mono ?_
  rintro e w2 ⟨rfl, hb2⟩
  refine hK _ _ ?_
  clear hK K
  refine wpAny_ready (rs := [29]) (by kernel_rfl) (by simp) ?_
  refine AllReady.cons rfl (fun K hK => ?_) AllReady.nil
  go_simp
  refine hK _ _ ?_
  clear hK K
  refine wpAny_done (by kernel_rfl) ?_ _
  go_wp2
  go_ret
  exact ⟨rfl, (((hM.trans x.mod).alloc _).after hb2).below (Nat.le_refl _) (fun _ h => h.elim)⟩

set_option maxHeartbeats 2000000 in
set_option maxRecDepth 100000 in
theorem check_ttt (x0 x1 x2 x3 x4 x5 x6 x7 x8 x9 : Int) (b1 b3 b5 : Bool) (w : World)
    (p0 : ∀ w, Hid (Calls Try.prog 55 #[.agg #[.int .i64 x0, .int .i64 x1]] w fun e w' => e = .returned (.bool true) ∧ Below w.heap.size w w'))
    (p1 : ∀ w, Hid (Calls Try.prog 55 #[.agg #[.int .i64 x2, .int .i64 x3]] w fun e w' => e = .returned (.bool b1) ∧ Below w.heap.size w w'))
    (p2 : ∀ w, Hid (Calls Try.prog 56 #[.agg #[.int .i64 x4, .int .i64 x5]] w fun e w' => e = .returned (.bool true) ∧ Below w.heap.size w w'))
    (p3 : ∀ w, Hid (Calls Try.prog 56 #[.agg #[.int .i64 x6, .int .i64 x7]] w fun e w' => e = .returned (.bool b3) ∧ Below w.heap.size w w'))
    (p4 : ∀ w, Hid (Calls Try.prog 57 #[.int .i64 x8, .int .i64 1, .int .i64 1000] w fun e w' => e = .returned (.bool true) ∧ Below w.heap.size w w'))
    (p5 : ∀ w, Hid (Calls Try.prog 57 #[.int .i64 x9, .int .i64 0, .int .i64 1000] w fun e w' => e = .returned (.bool b5) ∧ Below w.heap.size w w')) :
    Calls Try.prog 37 #[.agg #[.int .i64 x0, .int .i64 x1, .int .i64 x2, .int .i64 x3, .int .i64 x4, .int .i64 x5, .int .i64 x6, .int .i64 x7, .int .i64 x8, .int .i64 x9]] w fun e w' => e = .returned (.int .i64 (firstC (true && b1) (true && b3) (true && b5))) ∧ Below w.heap.size w w' := by
  have hB := Blk.new w #[.int .i64 x0, .int .i64 x1, .int .i64 x2, .int .i64 x3, .int .i64 x4, .int .i64 x5, .int .i64 x6, .int .i64 x7, .int .i64 x8, .int .i64 x9] 35
  have hM : Mod (fun _ => False) w (w.alloc (.cells #[.int .i64 x0, .int .i64 x1, .int .i64 x2, .int .i64 x3, .int .i64 x4, .int .i64 x5, .int .i64 x6, .int .i64 x7, .int .i64 x8, .int .i64 x9] 35)) := (Mod.refl _ _).alloc _
  have k0 : ∀ x : Later (fun _ => False) (w.alloc (.cells #[.int .i64 x0, .int .i64 x1, .int .i64 x2, .int .i64 x3, .int .i64 x4, .int .i64 x5, .int .i64 x6, .int .i64 x7, .int .i64 x8, .int .i64 x9] 35)), x.val.cell? ⟨w.heap.size, 0, none⟩ = some (.int .i64 x0) := fun x => x.cell (hB.cell (i := 0) rfl) (by simp)
  have k1 : ∀ x : Later (fun _ => False) (w.alloc (.cells #[.int .i64 x0, .int .i64 x1, .int .i64 x2, .int .i64 x3, .int .i64 x4, .int .i64 x5, .int .i64 x6, .int .i64 x7, .int .i64 x8, .int .i64 x9] 35)), x.val.cell? ⟨w.heap.size, 1, none⟩ = some (.int .i64 x1) := fun x => x.cell (hB.cell (i := 1) rfl) (by simp)
  have k2 : ∀ x : Later (fun _ => False) (w.alloc (.cells #[.int .i64 x0, .int .i64 x1, .int .i64 x2, .int .i64 x3, .int .i64 x4, .int .i64 x5, .int .i64 x6, .int .i64 x7, .int .i64 x8, .int .i64 x9] 35)), x.val.cell? ⟨w.heap.size, 2, none⟩ = some (.int .i64 x2) := fun x => x.cell (hB.cell (i := 2) rfl) (by simp)
  have k3 : ∀ x : Later (fun _ => False) (w.alloc (.cells #[.int .i64 x0, .int .i64 x1, .int .i64 x2, .int .i64 x3, .int .i64 x4, .int .i64 x5, .int .i64 x6, .int .i64 x7, .int .i64 x8, .int .i64 x9] 35)), x.val.cell? ⟨w.heap.size, 3, none⟩ = some (.int .i64 x3) := fun x => x.cell (hB.cell (i := 3) rfl) (by simp)
  have k4 : ∀ x : Later (fun _ => False) (w.alloc (.cells #[.int .i64 x0, .int .i64 x1, .int .i64 x2, .int .i64 x3, .int .i64 x4, .int .i64 x5, .int .i64 x6, .int .i64 x7, .int .i64 x8, .int .i64 x9] 35)), x.val.cell? ⟨w.heap.size, 4, none⟩ = some (.int .i64 x4) := fun x => x.cell (hB.cell (i := 4) rfl) (by simp)
  have k5 : ∀ x : Later (fun _ => False) (w.alloc (.cells #[.int .i64 x0, .int .i64 x1, .int .i64 x2, .int .i64 x3, .int .i64 x4, .int .i64 x5, .int .i64 x6, .int .i64 x7, .int .i64 x8, .int .i64 x9] 35)), x.val.cell? ⟨w.heap.size, 5, none⟩ = some (.int .i64 x5) := fun x => x.cell (hB.cell (i := 5) rfl) (by simp)
  have k6 : ∀ x : Later (fun _ => False) (w.alloc (.cells #[.int .i64 x0, .int .i64 x1, .int .i64 x2, .int .i64 x3, .int .i64 x4, .int .i64 x5, .int .i64 x6, .int .i64 x7, .int .i64 x8, .int .i64 x9] 35)), x.val.cell? ⟨w.heap.size, 6, none⟩ = some (.int .i64 x6) := fun x => x.cell (hB.cell (i := 6) rfl) (by simp)
  have k7 : ∀ x : Later (fun _ => False) (w.alloc (.cells #[.int .i64 x0, .int .i64 x1, .int .i64 x2, .int .i64 x3, .int .i64 x4, .int .i64 x5, .int .i64 x6, .int .i64 x7, .int .i64 x8, .int .i64 x9] 35)), x.val.cell? ⟨w.heap.size, 7, none⟩ = some (.int .i64 x7) := fun x => x.cell (hB.cell (i := 7) rfl) (by simp)
  have k8 : ∀ x : Later (fun _ => False) (w.alloc (.cells #[.int .i64 x0, .int .i64 x1, .int .i64 x2, .int .i64 x3, .int .i64 x4, .int .i64 x5, .int .i64 x6, .int .i64 x7, .int .i64 x8, .int .i64 x9] 35)), x.val.cell? ⟨w.heap.size, 8, none⟩ = some (.int .i64 x8) := fun x => x.cell (hB.cell (i := 8) rfl) (by simp)
  have k9 : ∀ x : Later (fun _ => False) (w.alloc (.cells #[.int .i64 x0, .int .i64 x1, .int .i64 x2, .int .i64 x3, .int .i64 x4, .int .i64 x5, .int .i64 x6, .int .i64 x7, .int .i64 x8, .int .i64 x9] 35)), x.val.cell? ⟨w.heap.size, 9, none⟩ = some (.int .i64 x9) := fun x => x.cell (hB.cell (i := 9) rfl) (by simp)
  replace hB := Lib.hid hB
  go_enter Try.func37, Try.ntmps37
  go_wp2_with fail
  refine wp_region_then (C := fun w' => ∃ x : Later (fun _ => False) (w.alloc (.cells #[.int .i64 x0, .int .i64 x1, .int .i64 x2, .int .i64 x3, .int .i64 x4, .int .i64 x5, .int .i64 x6, .int .i64 x7, .int .i64 x8, .int .i64 x9] 35)), w' = x.val) 27 (by kernel_rfl) (by kernel_rfl) ⟨⟨_, (Mod.refl _ _).drew⟩, rfl⟩ ?_
  simp only [List.take_succ_cons, List.take_zero]
  repeat (go_big_quiet_step ((first | (go_at_call 55; with_reducible exact Calls.later (p0 _).out) | (go_at_call 55; with_reducible exact Calls.later (p1 _).out) | (go_at_call 56; with_reducible exact Calls.later (p2 _).out) | (go_at_call 56; with_reducible exact Calls.later (p3 _).out) | (go_at_call 57; with_reducible exact Calls.later (p4 _).out) | (go_at_call 57; with_reducible exact Calls.later (p5 _).out))))
  refine wpQuiet_nil ?_
  rintro _ ⟨x, rfl⟩
  refine wpAny_ready (rs := [27]) (by kernel_rfl) (by simp) ?_
  refine AllReady.cons rfl (fun K hK => ?_) AllReady.nil
  go_simp
  refine hK _ _ ?_
  clear hK K
  refine wpAny_ready (rs := [28]) (by kernel_rfl) (by simp) ?_
  refine AllReady.cons rfl (fun K hK => ?_) AllReady.nil
  go_simp
  refine (first_calls _ _ _ _ _ (Blk.new _ _ _)).mono ?_
  rintro e w2 ⟨rfl, hb2⟩
  refine hK _ _ ?_
  clear hK K
  refine wpAny_ready (rs := [29]) (by kernel_rfl) (by simp) ?_
  refine AllReady.cons rfl (fun K hK => ?_) AllReady.nil
  go_simp
  refine hK _ _ ?_
  clear hK K
  refine wpAny_done (by kernel_rfl) ?_ _
  go_wp2
  go_ret
  exact ⟨rfl, (((hM.trans x.mod).alloc _).after hb2).below (Nat.le_refl _) (fun _ h => h.elim)⟩

theorem check_calls (x0 x1 x2 x3 x4 x5 x6 x7 x8 x9 : Int) (w : World) :
    Calls Try.prog 37 #[.agg #[.int .i64 x0, .int .i64 x1, .int .i64 x2, .int .i64 x3, .int .i64 x4, .int .i64 x5, .int .i64 x6, .int .i64 x7, .int .i64 x8, .int .i64 x9]] w fun e w' => e = .returned (.int .i64 (rqCode x0 x1 x2 x3 x4 x5 x6 x7 x8 x9)) ∧ Below w.heap.size w w' := by
  have p0 := fun w => Lib.hid (place_calls x0 x1 w)
  have p1 := fun w => Lib.hid (place_calls x2 x3 w)
  have p2 := fun w => Lib.hid (window_calls x4 x5 w)
  have p3 := fun w => Lib.hid (window_calls x6 x7 w)
  have p4 := fun w => Lib.hid (within_below x8 1 1000 w)
  have p5 := fun w => Lib.hid (within_below x9 0 1000 w)
  unfold rqCode
  generalize plB x0 x1 = b0 at p0 ⊢
  generalize plB x2 x3 = b1 at p1 ⊢
  generalize wiB x4 x5 = b2 at p2 ⊢
  generalize wiB x6 x7 = b3 at p3 ⊢
  generalize decide (1 ≤ x8 ∧ x8 ≤ 1000) = b4 at p4 ⊢
  generalize decide (0 ≤ x9 ∧ x9 ≤ 1000) = b5 at p5 ⊢
  cases b0 <;> cases b2 <;> cases b4
  · exact check_fff x0 x1 x2 x3 x4 x5 x6 x7 x8 x9 b1 b3 b5 w p0 p2 p4
  · exact check_fft x0 x1 x2 x3 x4 x5 x6 x7 x8 x9 b1 b3 b5 w p0 p2 p4 p5
  · exact check_ftf x0 x1 x2 x3 x4 x5 x6 x7 x8 x9 b1 b3 b5 w p0 p2 p3 p4
  · exact check_ftt x0 x1 x2 x3 x4 x5 x6 x7 x8 x9 b1 b3 b5 w p0 p2 p3 p4 p5
  · exact check_tff x0 x1 x2 x3 x4 x5 x6 x7 x8 x9 b1 b3 b5 w p0 p1 p2 p4
  · exact check_tft x0 x1 x2 x3 x4 x5 x6 x7 x8 x9 b1 b3 b5 w p0 p1 p2 p4 p5
  · exact check_ttf x0 x1 x2 x3 x4 x5 x6 x7 x8 x9 b1 b3 b5 w p0 p1 p2 p3 p4
  · exact check_ttt x0 x1 x2 x3 x4 x5 x6 x7 x8 x9 b1 b3 b5 w p0 p1 p2 p3 p4 p5
end Go.Proofs.Ytcipdimnbleljaa
