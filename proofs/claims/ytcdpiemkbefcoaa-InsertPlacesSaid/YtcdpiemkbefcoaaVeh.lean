/-
  Layer 4: order.Vehicle, and the document's.
-/
import Derived.Test.YtcdpiemkbefcoaaOrdR
namespace Go.Proofs.Ytcdpiemkbefcoaa
open Go.RowKit

/-- the first code of two needs that does not hold -/
def firstV (b1 b2 : Bool) : Int := if !b1 then 4 else if !b2 then 7 else 0
theorem firstV_calls (B : Nat) (b1 b2 : Bool) (w : World) (hB : Blk w B #[.bool b1, .int .i64 4, .bool b2, .int .i64 7] 123) :
    Calls Try.prog 65 #[.slice (some ⟨B, 0, none⟩) 2 2] w fun e w' => e = .returned (.int .i64 (firstV b1 b2)) ∧ Below w.heap.size w w' := by
  have hbl := hB.lt
  have g1 : ∀ o1 : Obj, Below w.heap.size w (w.alloc o1) := fun o1 => (Below.refl _ _).alloc (Nat.le_refl _) o1
  have g2 : ∀ o1 o2 : Obj, Below w.heap.size w ((w.alloc o1).alloc o2) := fun o1 o2 => (g1 o1).alloc (by simp) o2
  have c0 := hB.cell (i := 0) rfl
  have c1 := hB.cell (i := 1) rfl
  have c2 := hB.cell (i := 2) rfl
  have c3 := hB.cell (i := 3) rfl
  cases b1
  · go_enter Try.func65, Try.ntmps65
    go_wp2_with fail
    refine wp_loop_rounds 1 ?_
    rw [rounds_succ]; go_wp2_with fail
    go_ret
    exact ⟨rfl, g1 _⟩
  · cases b2
    · go_enter Try.func65, Try.ntmps65
      go_wp2_with fail
      refine wp_loop_rounds 2 ?_
      rw [rounds_succ]; go_wp2_with fail
      rw [rounds_succ]; go_wp2_with fail
      go_ret
      exact ⟨rfl, g2 _ _⟩
    · go_enter Try.func65, Try.ntmps65
      go_wp2_with fail
      refine wp_loop_rounds 3 ?_
      rw [rounds_succ]; go_wp2_with fail
      rw [rounds_succ]; go_wp2_with fail
      rw [rounds_succ]; go_wp2_with fail
      go_ret
      exact ⟨rfl, g2 _ _⟩

set_option maxHeartbeats 2000000 in
set_option maxRecDepth 100000 in
theorem veh_f (x y cp st en : Int) (b0 : Bool) (w : World)
    (p0 : ∀ w, Hid (Calls Try.prog 66 #[.agg #[.int .i64 x, .int .i64 y]] w fun e w' => e = .returned (.bool b0) ∧ Below w.heap.size w w'))
    (p1 : ∀ w, Hid (Calls Try.prog 67 #[.int .i64 cp, .int .i64 1, .int .i64 100000] w fun e w' => e = .returned (.bool false) ∧ Below w.heap.size w w')) :
    Calls Try.prog 38 #[.agg #[.int .i64 x, .int .i64 y, .int .i64 cp, .int .i64 st, .int .i64 en]] w fun e w' => e = .returned (.int .i64 (firstV b0 false)) ∧ Below w.heap.size w w' := by
  have hB := Blk.new w #[.int .i64 x, .int .i64 y, .int .i64 cp, .int .i64 st, .int .i64 en] 28
  have hM : Mod (fun _ => False) w (w.alloc (.cells #[.int .i64 x, .int .i64 y, .int .i64 cp, .int .i64 st, .int .i64 en] 28)) := (Mod.refl _ _).alloc _
  have k0 : ∀ x_ : Later (fun _ => False) (w.alloc (.cells #[.int .i64 x, .int .i64 y, .int .i64 cp, .int .i64 st, .int .i64 en] 28)), x_.val.cell? ⟨w.heap.size, 0, none⟩ = some (.int .i64 x) := fun x_ => x_.cell (hB.cell (i := 0) rfl) (by simp)
  have k1 : ∀ x_ : Later (fun _ => False) (w.alloc (.cells #[.int .i64 x, .int .i64 y, .int .i64 cp, .int .i64 st, .int .i64 en] 28)), x_.val.cell? ⟨w.heap.size, 1, none⟩ = some (.int .i64 y) := fun x_ => x_.cell (hB.cell (i := 1) rfl) (by simp)
  have k2 : ∀ x_ : Later (fun _ => False) (w.alloc (.cells #[.int .i64 x, .int .i64 y, .int .i64 cp, .int .i64 st, .int .i64 en] 28)), x_.val.cell? ⟨w.heap.size, 2, none⟩ = some (.int .i64 cp) := fun x_ => x_.cell (hB.cell (i := 2) rfl) (by simp)
  have k3 : ∀ x_ : Later (fun _ => False) (w.alloc (.cells #[.int .i64 x, .int .i64 y, .int .i64 cp, .int .i64 st, .int .i64 en] 28)), x_.val.cell? ⟨w.heap.size, 3, none⟩ = some (.int .i64 st) := fun x_ => x_.cell (hB.cell (i := 3) rfl) (by simp)
  have k4 : ∀ x_ : Later (fun _ => False) (w.alloc (.cells #[.int .i64 x, .int .i64 y, .int .i64 cp, .int .i64 st, .int .i64 en] 28)), x_.val.cell? ⟨w.heap.size, 4, none⟩ = some (.int .i64 en) := fun x_ => x_.cell (hB.cell (i := 4) rfl) (by simp)
  replace hB := Lib.hid hB
  go_enter Try.func38, Try.ntmps38
  go_wp2_with fail
  refine wp_region_then (C := fun w' => ∃ x_ : Later (fun _ => False) (w.alloc (.cells #[.int .i64 x, .int .i64 y, .int .i64 cp, .int .i64 st, .int .i64 en] 28)), w' = x_.val) 20 (by kernel_rfl) (by kernel_rfl) ⟨⟨_, (Mod.refl _ _).drew⟩, rfl⟩ ?_
  simp only [List.take_succ_cons, List.take_zero]
  repeat (go_big_quiet_step ((first | (go_at_call 66; with_reducible exact Calls.later (p0 _).out) | (go_at_call 67; with_reducible exact Calls.later (p1 _).out))))
  refine wpQuiet_nil ?_
  rintro _ ⟨x_, rfl⟩
  refine wpAny_ready (rs := [20]) (by kernel_rfl) (by simp) ?_
  refine AllReady.cons rfl (fun K hK => ?_) AllReady.nil
  go_simp
  refine hK _ _ ?_
  clear hK K
  refine wpAny_ready (rs := [21]) (by kernel_rfl) (by simp) ?_
  refine AllReady.cons rfl (fun K hK => ?_) AllReady.nil
  go_simp
  refine (firstV_calls _ _ _ _ (Blk.new _ _ _)).mono ?_
  rintro e w2 ⟨rfl, hb2⟩
  refine hK _ _ ?_
  clear hK K
  refine wpAny_ready (rs := [22]) (by kernel_rfl) (by simp) ?_
  refine AllReady.cons rfl (fun K hK => ?_) AllReady.nil
  go_simp
  refine hK _ _ ?_
  clear hK K
  refine wpAny_done (by kernel_rfl) ?_ _
  go_wp2
  go_ret
  exact ⟨rfl, (((hM.trans x_.mod).alloc _).after hb2).below (Nat.le_refl _) (fun _ h => h.elim)⟩

set_option maxHeartbeats 2000000 in
set_option maxRecDepth 100000 in
theorem veh_tf (x y cp st en : Int) (b0 : Bool) (w : World)
    (p0 : ∀ w, Hid (Calls Try.prog 66 #[.agg #[.int .i64 x, .int .i64 y]] w fun e w' => e = .returned (.bool b0) ∧ Below w.heap.size w w'))
    (p1 : ∀ w, Hid (Calls Try.prog 67 #[.int .i64 cp, .int .i64 1, .int .i64 100000] w fun e w' => e = .returned (.bool true) ∧ Below w.heap.size w w'))
    (p2 : ∀ w, Hid (Calls Try.prog 67 #[.int .i64 st, .int .i64 0, .int .i64 en] w fun e w' => e = .returned (.bool false) ∧ Below w.heap.size w w')) :
    Calls Try.prog 38 #[.agg #[.int .i64 x, .int .i64 y, .int .i64 cp, .int .i64 st, .int .i64 en]] w fun e w' => e = .returned (.int .i64 (firstV b0 false)) ∧ Below w.heap.size w w' := by
  have hB := Blk.new w #[.int .i64 x, .int .i64 y, .int .i64 cp, .int .i64 st, .int .i64 en] 28
  have hM : Mod (fun _ => False) w (w.alloc (.cells #[.int .i64 x, .int .i64 y, .int .i64 cp, .int .i64 st, .int .i64 en] 28)) := (Mod.refl _ _).alloc _
  have k0 : ∀ x_ : Later (fun _ => False) (w.alloc (.cells #[.int .i64 x, .int .i64 y, .int .i64 cp, .int .i64 st, .int .i64 en] 28)), x_.val.cell? ⟨w.heap.size, 0, none⟩ = some (.int .i64 x) := fun x_ => x_.cell (hB.cell (i := 0) rfl) (by simp)
  have k1 : ∀ x_ : Later (fun _ => False) (w.alloc (.cells #[.int .i64 x, .int .i64 y, .int .i64 cp, .int .i64 st, .int .i64 en] 28)), x_.val.cell? ⟨w.heap.size, 1, none⟩ = some (.int .i64 y) := fun x_ => x_.cell (hB.cell (i := 1) rfl) (by simp)
  have k2 : ∀ x_ : Later (fun _ => False) (w.alloc (.cells #[.int .i64 x, .int .i64 y, .int .i64 cp, .int .i64 st, .int .i64 en] 28)), x_.val.cell? ⟨w.heap.size, 2, none⟩ = some (.int .i64 cp) := fun x_ => x_.cell (hB.cell (i := 2) rfl) (by simp)
  have k3 : ∀ x_ : Later (fun _ => False) (w.alloc (.cells #[.int .i64 x, .int .i64 y, .int .i64 cp, .int .i64 st, .int .i64 en] 28)), x_.val.cell? ⟨w.heap.size, 3, none⟩ = some (.int .i64 st) := fun x_ => x_.cell (hB.cell (i := 3) rfl) (by simp)
  have k4 : ∀ x_ : Later (fun _ => False) (w.alloc (.cells #[.int .i64 x, .int .i64 y, .int .i64 cp, .int .i64 st, .int .i64 en] 28)), x_.val.cell? ⟨w.heap.size, 4, none⟩ = some (.int .i64 en) := fun x_ => x_.cell (hB.cell (i := 4) rfl) (by simp)
  replace hB := Lib.hid hB
  go_enter Try.func38, Try.ntmps38
  go_wp2_with fail
  refine wp_region_then (C := fun w' => ∃ x_ : Later (fun _ => False) (w.alloc (.cells #[.int .i64 x, .int .i64 y, .int .i64 cp, .int .i64 st, .int .i64 en] 28)), w' = x_.val) 20 (by kernel_rfl) (by kernel_rfl) ⟨⟨_, (Mod.refl _ _).drew⟩, rfl⟩ ?_
  simp only [List.take_succ_cons, List.take_zero]
  repeat (go_big_quiet_step ((first | (go_at_call 66; with_reducible exact Calls.later (p0 _).out) | (go_at_call 67; with_reducible exact Calls.later (p1 _).out) | (go_at_call 67; with_reducible exact Calls.later (p2 _).out))))
  refine wpQuiet_nil ?_
  rintro _ ⟨x_, rfl⟩
  refine wpAny_ready (rs := [20]) (by kernel_rfl) (by simp) ?_
  refine AllReady.cons rfl (fun K hK => ?_) AllReady.nil
  go_simp
  refine hK _ _ ?_
  clear hK K
  refine wpAny_ready (rs := [21]) (by kernel_rfl) (by simp) ?_
  refine AllReady.cons rfl (fun K hK => ?_) AllReady.nil
  go_simp
  refine (firstV_calls _ _ _ _ (Blk.new _ _ _)).mono ?_
  rintro e w2 ⟨rfl, hb2⟩
  refine hK _ _ ?_
  clear hK K
  refine wpAny_ready (rs := [22]) (by kernel_rfl) (by simp) ?_
  refine AllReady.cons rfl (fun K hK => ?_) AllReady.nil
  go_simp
  refine hK _ _ ?_
  clear hK K
  refine wpAny_done (by kernel_rfl) ?_ _
  go_wp2
  go_ret
  exact ⟨rfl, (((hM.trans x_.mod).alloc _).after hb2).below (Nat.le_refl _) (fun _ h => h.elim)⟩

set_option maxHeartbeats 2000000 in
set_option maxRecDepth 100000 in
theorem veh_tt (x y cp st en : Int) (b0 b3 : Bool) (w : World)
    (p0 : ∀ w, Hid (Calls Try.prog 66 #[.agg #[.int .i64 x, .int .i64 y]] w fun e w' => e = .returned (.bool b0) ∧ Below w.heap.size w w'))
    (p1 : ∀ w, Hid (Calls Try.prog 67 #[.int .i64 cp, .int .i64 1, .int .i64 100000] w fun e w' => e = .returned (.bool true) ∧ Below w.heap.size w w'))
    (p2 : ∀ w, Hid (Calls Try.prog 67 #[.int .i64 st, .int .i64 0, .int .i64 en] w fun e w' => e = .returned (.bool true) ∧ Below w.heap.size w w'))
    (p3 : ∀ w, Hid (Calls Try.prog 67 #[.int .i64 en, .int .i64 0, .int .i64 1048576] w fun e w' => e = .returned (.bool b3) ∧ Below w.heap.size w w')) :
    Calls Try.prog 38 #[.agg #[.int .i64 x, .int .i64 y, .int .i64 cp, .int .i64 st, .int .i64 en]] w fun e w' => e = .returned (.int .i64 (firstV b0 b3)) ∧ Below w.heap.size w w' := by
  have hB := Blk.new w #[.int .i64 x, .int .i64 y, .int .i64 cp, .int .i64 st, .int .i64 en] 28
  have hM : Mod (fun _ => False) w (w.alloc (.cells #[.int .i64 x, .int .i64 y, .int .i64 cp, .int .i64 st, .int .i64 en] 28)) := (Mod.refl _ _).alloc _
  have k0 : ∀ x_ : Later (fun _ => False) (w.alloc (.cells #[.int .i64 x, .int .i64 y, .int .i64 cp, .int .i64 st, .int .i64 en] 28)), x_.val.cell? ⟨w.heap.size, 0, none⟩ = some (.int .i64 x) := fun x_ => x_.cell (hB.cell (i := 0) rfl) (by simp)
  have k1 : ∀ x_ : Later (fun _ => False) (w.alloc (.cells #[.int .i64 x, .int .i64 y, .int .i64 cp, .int .i64 st, .int .i64 en] 28)), x_.val.cell? ⟨w.heap.size, 1, none⟩ = some (.int .i64 y) := fun x_ => x_.cell (hB.cell (i := 1) rfl) (by simp)
  have k2 : ∀ x_ : Later (fun _ => False) (w.alloc (.cells #[.int .i64 x, .int .i64 y, .int .i64 cp, .int .i64 st, .int .i64 en] 28)), x_.val.cell? ⟨w.heap.size, 2, none⟩ = some (.int .i64 cp) := fun x_ => x_.cell (hB.cell (i := 2) rfl) (by simp)
  have k3 : ∀ x_ : Later (fun _ => False) (w.alloc (.cells #[.int .i64 x, .int .i64 y, .int .i64 cp, .int .i64 st, .int .i64 en] 28)), x_.val.cell? ⟨w.heap.size, 3, none⟩ = some (.int .i64 st) := fun x_ => x_.cell (hB.cell (i := 3) rfl) (by simp)
  have k4 : ∀ x_ : Later (fun _ => False) (w.alloc (.cells #[.int .i64 x, .int .i64 y, .int .i64 cp, .int .i64 st, .int .i64 en] 28)), x_.val.cell? ⟨w.heap.size, 4, none⟩ = some (.int .i64 en) := fun x_ => x_.cell (hB.cell (i := 4) rfl) (by simp)
  replace hB := Lib.hid hB
  go_enter Try.func38, Try.ntmps38
  go_wp2_with fail
  refine wp_region_then (C := fun w' => ∃ x_ : Later (fun _ => False) (w.alloc (.cells #[.int .i64 x, .int .i64 y, .int .i64 cp, .int .i64 st, .int .i64 en] 28)), w' = x_.val) 20 (by kernel_rfl) (by kernel_rfl) ⟨⟨_, (Mod.refl _ _).drew⟩, rfl⟩ ?_
  simp only [List.take_succ_cons, List.take_zero]
  repeat (go_big_quiet_step ((first | (go_at_call 66; with_reducible exact Calls.later (p0 _).out) | (go_at_call 67; with_reducible exact Calls.later (p1 _).out) | (go_at_call 67; with_reducible exact Calls.later (p2 _).out) | (go_at_call 67; with_reducible exact Calls.later (p3 _).out))))
  refine wpQuiet_nil ?_
  rintro _ ⟨x_, rfl⟩
  refine wpAny_ready (rs := [20]) (by kernel_rfl) (by simp) ?_
  refine AllReady.cons rfl (fun K hK => ?_) AllReady.nil
  go_simp
  refine hK _ _ ?_
  clear hK K
  refine wpAny_ready (rs := [21]) (by kernel_rfl) (by simp) ?_
  refine AllReady.cons rfl (fun K hK => ?_) AllReady.nil
  go_simp
  refine (firstV_calls _ _ _ _ (Blk.new _ _ _)).mono ?_
  rintro e w2 ⟨rfl, hb2⟩
  refine hK _ _ ?_
  clear hK K
  refine wpAny_ready (rs := [22]) (by kernel_rfl) (by simp) ?_
  refine AllReady.cons rfl (fun K hK => ?_) AllReady.nil
  go_simp
  refine hK _ _ ?_
  clear hK K
  refine wpAny_done (by kernel_rfl) ?_ _
  go_wp2
  go_ret
  exact ⟨rfl, (((hM.trans x_.mod).alloc _).after hb2).below (Nat.le_refl _) (fun _ h => h.elim)⟩

/-- a vehicle's numbers may be: the first error -/
def vehCode (x y cp st en : Int) : Int := firstV (plB x y) (decide (1 ≤ cp ∧ cp ≤ 100000) && (decide (0 ≤ st ∧ st ≤ en) && decide (0 ≤ en ∧ en ≤ 1048576)))
theorem vehicle_calls (x y cp st en : Int) (w : World) :
    Calls Try.prog 38 #[.agg #[.int .i64 x, .int .i64 y, .int .i64 cp, .int .i64 st, .int .i64 en]] w fun e w' => e = .returned (.int .i64 (vehCode x y cp st en)) ∧ Below w.heap.size w w' := by
  have p0 := fun w => Lib.hid (place_calls x y w)
  have p1 := fun w => Lib.hid (within_below cp 1 100000 w)
  have p2 := fun w => Lib.hid (within_below st 0 en w)
  have p3 := fun w => Lib.hid (within_below en 0 1048576 w)
  unfold vehCode
  generalize plB x y = b0 at p0 ⊢
  generalize decide (1 ≤ cp ∧ cp ≤ 100000) = b1 at p1 ⊢
  generalize decide (0 ≤ st ∧ st ≤ en) = b2 at p2 ⊢
  generalize decide (0 ≤ en ∧ en ≤ 1048576) = b3 at p3 ⊢
  cases b1
  · exact veh_f x y cp st en b0 w p0 p1
  · cases b2
    · exact veh_tf x y cp st en b0 w p0 p1 p2
    · exact veh_tt x y cp st en b0 b3 w p0 p1 p2 p3
end Go.Proofs.Ytcdpiemkbefcoaa
