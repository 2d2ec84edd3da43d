/-
  Layer 4: order.Vehicle, and the document's.
  Layers 2 to 4: how far it is; when one begins; the document's Vehicle.
  Layer 3: window.Wait.
  The document's layers 2 to 4: Dist, Wait, Vehicle.
-/
import Derived.Test.YtpbmeeogledmdaeOrd
namespace Go.Proofs.Ytpbmeeogledmdae
open Go.RowKit

/-- the first code of two needs that does not hold -/
def firstV (b1 b2 : Bool) : Int := if !b1 then 4 else if !b2 then 7 else 0
theorem firstV_calls (B : Nat) (b1 b2 : Bool) (w : World) (hB : Blk w B #[.bool b1, .int .i64 4, .bool b2, .int .i64 7] 134) :
    Calls Try.prog 53 #[.slice (some ⟨B, 0, none⟩) 2 2] w fun e w' => e = .returned (.int .i64 (firstV b1 b2)) ∧ Below w.heap.size w w' := by
  have hbl := hB.lt
  have g1 : ∀ o1 : Obj, Below w.heap.size w (w.alloc o1) := fun o1 => (Below.refl _ _).alloc (Nat.le_refl _) o1
  have g2 : ∀ o1 o2 : Obj, Below w.heap.size w ((w.alloc o1).alloc o2) := fun o1 o2 => (g1 o1).alloc (by simp) o2
  have c0 := hB.cell (i := 0) rfl
  have c1 := hB.cell (i := 1) rfl
  have c2 := hB.cell (i := 2) rfl
  have c3 := hB.cell (i := 3) rfl
  cases b1
  · go_enter Try.func53, Try.ntmps53
    go_wp2_with fail
    refine wp_loop_rounds 1 ?_
    rw [rounds_succ]; go_wp2_with fail
    go_ret
    exact ⟨rfl, g1 _⟩
  · cases b2
    · go_enter Try.func53, Try.ntmps53
      go_wp2_with fail
      refine wp_loop_rounds 2 ?_
      rw [rounds_succ]; go_wp2_with fail
      rw [rounds_succ]; go_wp2_with fail
      go_ret
      exact ⟨rfl, g2 _ _⟩
    · go_enter Try.func53, Try.ntmps53
      go_wp2_with fail
      refine wp_loop_rounds 3 ?_
      rw [rounds_succ]; go_wp2_with fail
      rw [rounds_succ]; go_wp2_with fail
      rw [rounds_succ]; go_wp2_with fail
      go_ret
      exact ⟨rfl, g2 _ _⟩

set_option maxHeartbeats 2000000 in
set_option maxRecDepth 100000 in
theorem veh_f (x y cp st en : Int) (b0 : Bool) (w : World)
    (p0 : ∀ w, Hid (Calls Try.prog 50 #[.agg #[.int .i64 x, .int .i64 y]] w fun e w' => e = .returned (.bool b0) ∧ Below w.heap.size w w'))
    (p1 : ∀ w, Hid (Calls Try.prog 54 #[.int .i64 cp, .int .i64 1, .int .i64 100000] w fun e w' => e = .returned (.bool false) ∧ Below w.heap.size w w')) :
    Calls Try.prog 30 #[.agg #[.int .i64 x, .int .i64 y, .int .i64 cp, .int .i64 st, .int .i64 en]] w fun e w' => e = .returned (.int .i64 (firstV b0 false)) ∧ Below w.heap.size w w' := by
  have hB := Blk.new w #[.int .i64 x, .int .i64 y, .int .i64 cp, .int .i64 st, .int .i64 en] 47
  have hM : Mod (fun _ => False) w (w.alloc (.cells #[.int .i64 x, .int .i64 y, .int .i64 cp, .int .i64 st, .int .i64 en] 47)) := (Mod.refl _ _).alloc _
  have k0 : ∀ x_ : Later (fun _ => False) (w.alloc (.cells #[.int .i64 x, .int .i64 y, .int .i64 cp, .int .i64 st, .int .i64 en] 47)), x_.val.cell? ⟨w.heap.size, 0, none⟩ = some (.int .i64 x) := fun x_ => x_.cell (hB.cell (i := 0) rfl) (by simp)
  have k1 : ∀ x_ : Later (fun _ => False) (w.alloc (.cells #[.int .i64 x, .int .i64 y, .int .i64 cp, .int .i64 st, .int .i64 en] 47)), x_.val.cell? ⟨w.heap.size, 1, none⟩ = some (.int .i64 y) := fun x_ => x_.cell (hB.cell (i := 1) rfl) (by simp)
  have k2 : ∀ x_ : Later (fun _ => False) (w.alloc (.cells #[.int .i64 x, .int .i64 y, .int .i64 cp, .int .i64 st, .int .i64 en] 47)), x_.val.cell? ⟨w.heap.size, 2, none⟩ = some (.int .i64 cp) := fun x_ => x_.cell (hB.cell (i := 2) rfl) (by simp)
  have k3 : ∀ x_ : Later (fun _ => False) (w.alloc (.cells #[.int .i64 x, .int .i64 y, .int .i64 cp, .int .i64 st, .int .i64 en] 47)), x_.val.cell? ⟨w.heap.size, 3, none⟩ = some (.int .i64 st) := fun x_ => x_.cell (hB.cell (i := 3) rfl) (by simp)
  have k4 : ∀ x_ : Later (fun _ => False) (w.alloc (.cells #[.int .i64 x, .int .i64 y, .int .i64 cp, .int .i64 st, .int .i64 en] 47)), x_.val.cell? ⟨w.heap.size, 4, none⟩ = some (.int .i64 en) := fun x_ => x_.cell (hB.cell (i := 4) rfl) (by simp)
  replace hB := Lib.hid hB
  go_enter Try.func30, Try.ntmps30
  go_wp2_with fail
  refine wp_region_then (C := fun w' => ∃ x_ : Later (fun _ => False) (w.alloc (.cells #[.int .i64 x, .int .i64 y, .int .i64 cp, .int .i64 st, .int .i64 en] 47)), w' = x_.val) 20 (by kernel_rfl) (by kernel_rfl) ⟨⟨_, (Mod.refl _ _).drew⟩, rfl⟩ ?_
  simp only [List.take_succ_cons, List.take_zero]
  repeat (go_big_quiet_step ((first | (go_at_call 50; with_reducible exact Calls.later (p0 _).out) | (go_at_call 54; with_reducible exact Calls.later (p1 _).out))))
  refine wpQuiet_nil ?_
  rintro _ ⟨x_, rfl⟩
  refine wpAny_ready (rs := [20]) (by kernel_rfl) (by simp) ?_
  refine AllReady.cons rfl (fun K hK => ?_) AllReady.nil
  go_simp
  refine hK _ _ ?_
  clear hK K
  refine wpAny_ready (rs := [21]) (by kernel_rfl) (by simp) ?_
  refine AllReady.cons rfl (fun K hK => ?_) AllReady.nil
  go_simp
  refine (firstV_calls _ _ _ _ (Blk.new _ _ _)).mono ?_
  rintro e w2 ⟨rfl, hb2⟩
  refine hK _ _ ?_
  clear hK K
  refine wpAny_ready (rs := [22]) (by kernel_rfl) (by simp) ?_
  refine AllReady.cons rfl (fun K hK => ?_) AllReady.nil
  go_simp
  refine hK _ _ ?_
  clear hK K
  refine wpAny_done (by kernel_rfl) ?_ _
  go_wp2
  go_ret
  exact ⟨rfl, (((hM.trans x_.mod).alloc _).after hb2).below (Nat.le_refl _) (fun _ h => h.elim)⟩

set_option maxHeartbeats 2000000 in
set_option maxRecDepth 100000 in
theorem veh_tf (x y cp st en : Int) (b0 : Bool) (w : World)
    (p0 : ∀ w, Hid (Calls Try.prog 50 #[.agg #[.int .i64 x, .int .i64 y]] w fun e w' => e = .returned (.bool b0) ∧ Below w.heap.size w w'))
    (p1 : ∀ w, Hid (Calls Try.prog 54 #[.int .i64 cp, .int .i64 1, .int .i64 100000] w fun e w' => e = .returned (.bool true) ∧ Below w.heap.size w w'))
    (p2 : ∀ w, Hid (Calls Try.prog 54 #[.int .i64 st, .int .i64 0, .int .i64 en] w fun e w' => e = .returned (.bool false) ∧ Below w.heap.size w w')) :
    Calls Try.prog 30 #[.agg #[.int .i64 x, .int .i64 y, .int .i64 cp, .int .i64 st, .int .i64 en]] w fun e w' => e = .returned (.int .i64 (firstV b0 false)) ∧ Below w.heap.size w w' := by
  have hB := Blk.new w #[.int .i64 x, .int .i64 y, .int .i64 cp, .int .i64 st, .int .i64 en] 47
  have hM : Mod (fun _ => False) w (w.alloc (.cells #[.int .i64 x, .int .i64 y, .int .i64 cp, .int .i64 st, .int .i64 en] 47)) := (Mod.refl _ _).alloc _
  have k0 : ∀ x_ : Later (fun _ => False) (w.alloc (.cells #[.int .i64 x, .int .i64 y, .int .i64 cp, .int .i64 st, .int .i64 en] 47)), x_.val.cell? ⟨w.heap.size, 0, none⟩ = some (.int .i64 x) := fun x_ => x_.cell (hB.cell (i := 0) rfl) (by simp)
  have k1 : ∀ x_ : Later (fun _ => False) (w.alloc (.cells #[.int .i64 x, .int .i64 y, .int .i64 cp, .int .i64 st, .int .i64 en] 47)), x_.val.cell? ⟨w.heap.size, 1, none⟩ = some (.int .i64 y) := fun x_ => x_.cell (hB.cell (i := 1) rfl) (by simp)
  have k2 : ∀ x_ : Later (fun _ => False) (w.alloc (.cells #[.int .i64 x, .int .i64 y, .int .i64 cp, .int .i64 st, .int .i64 en] 47)), x_.val.cell? ⟨w.heap.size, 2, none⟩ = some (.int .i64 cp) := fun x_ => x_.cell (hB.cell (i := 2) rfl) (by simp)
  have k3 : ∀ x_ : Later (fun _ => False) (w.alloc (.cells #[.int .i64 x, .int .i64 y, .int .i64 cp, .int .i64 st, .int .i64 en] 47)), x_.val.cell? ⟨w.heap.size, 3, none⟩ = some (.int .i64 st) := fun x_ => x_.cell (hB.cell (i := 3) rfl) (by simp)
  have k4 : ∀ x_ : Later (fun _ => False) (w.alloc (.cells #[.int .i64 x, .int .i64 y, .int .i64 cp, .int .i64 st, .int .i64 en] 47)), x_.val.cell? ⟨w.heap.size, 4, none⟩ = some (.int .i64 en) := fun x_ => x_.cell (hB.cell (i := 4) rfl) (by simp)
  replace hB := Lib.hid hB
  go_enter Try.func30, Try.ntmps30
  go_wp2_with fail
  refine wp_region_then (C := fun w' => ∃ x_ : Later (fun _ => False) (w.alloc (.cells #[.int .i64 x, .int .i64 y, .int .i64 cp, .int .i64 st, .int .i64 en] 47)), w' = x_.val) 20 (by kernel_rfl) (by kernel_rfl) ⟨⟨_, (Mod.refl _ _).drew⟩, rfl⟩ ?_
  simp only [List.take_succ_cons, List.take_zero]
  repeat (go_big_quiet_step ((first | (go_at_call 50; with_reducible exact Calls.later (p0 _).out) | (go_at_call 54; with_reducible exact Calls.later (p1 _).out) | (go_at_call 54; with_reducible exact Calls.later (p2 _).out))))
  refine wpQuiet_nil ?_
  rintro _ ⟨x_, rfl⟩
  refine wpAny_ready (rs := [20]) (by kernel_rfl) (by simp) ?_
  refine AllReady.cons rfl (fun K hK => ?_) AllReady.nil
  go_simp
  refine hK _ _ ?_
  clear hK K
  refine wpAny_ready (rs := [21]) (by kernel_rfl) (by simp) ?_
  refine AllReady.cons rfl (fun K hK => ?_) AllReady.nil
  go_simp
  refine (firstV_calls _ _ _ _ (Blk.new _ _ _)).mono ?_
  rintro e w2 ⟨rfl, hb2⟩
  refine hK _ _ ?_
  clear hK K
  refine wpAny_ready (rs := [22]) (by kernel_rfl) (by simp) ?_
  refine AllReady.cons rfl (fun K hK => ?_) AllReady.nil
  go_simp
  refine hK _ _ ?_
  clear hK K
  refine wpAny_done (by kernel_rfl) ?_ _
  go_wp2
  go_ret
  exact ⟨rfl, (((hM.trans x_.mod).alloc _).after hb2).below (Nat.le_refl _) (fun _ h => h.elim)⟩

set_option maxHeartbeats 2000000 in
set_option maxRecDepth 100000 in
theorem veh_tt (x y cp st en : Int) (b0 b3 : Bool) (w : World)
    (p0 : ∀ w, Hid (Calls Try.prog 50 #[.agg #[.int .i64 x, .int .i64 y]] w fun e w' => e = .returned (.bool b0) ∧ Below w.heap.size w w'))
    (p1 : ∀ w, Hid (Calls Try.prog 54 #[.int .i64 cp, .int .i64 1, .int .i64 100000] w fun e w' => e = .returned (.bool true) ∧ Below w.heap.size w w'))
    (p2 : ∀ w, Hid (Calls Try.prog 54 #[.int .i64 st, .int .i64 0, .int .i64 en] w fun e w' => e = .returned (.bool true) ∧ Below w.heap.size w w'))
    (p3 : ∀ w, Hid (Calls Try.prog 54 #[.int .i64 en, .int .i64 0, .int .i64 1048576] w fun e w' => e = .returned (.bool b3) ∧ Below w.heap.size w w')) :
    Calls Try.prog 30 #[.agg #[.int .i64 x, .int .i64 y, .int .i64 cp, .int .i64 st, .int .i64 en]] w fun e w' => e = .returned (.int .i64 (firstV b0 b3)) ∧ Below w.heap.size w w' := by
  have hB := Blk.new w #[.int .i64 x, .int .i64 y, .int .i64 cp, .int .i64 st, .int .i64 en] 47
  have hM : Mod (fun _ => False) w (w.alloc (.cells #[.int .i64 x, .int .i64 y, .int .i64 cp, .int .i64 st, .int .i64 en] 47)) := (Mod.refl _ _).alloc _
  have k0 : ∀ x_ : Later (fun _ => False) (w.alloc (.cells #[.int .i64 x, .int .i64 y, .int .i64 cp, .int .i64 st, .int .i64 en] 47)), x_.val.cell? ⟨w.heap.size, 0, none⟩ = some (.int .i64 x) := fun x_ => x_.cell (hB.cell (i := 0) rfl) (by simp)
  have k1 : ∀ x_ : Later (fun _ => False) (w.alloc (.cells #[.int .i64 x, .int .i64 y, .int .i64 cp, .int .i64 st, .int .i64 en] 47)), x_.val.cell? ⟨w.heap.size, 1, none⟩ = some (.int .i64 y) := fun x_ => x_.cell (hB.cell (i := 1) rfl) (by simp)
  have k2 : ∀ x_ : Later (fun _ => False) (w.alloc (.cells #[.int .i64 x, .int .i64 y, .int .i64 cp, .int .i64 st, .int .i64 en] 47)), x_.val.cell? ⟨w.heap.size, 2, none⟩ = some (.int .i64 cp) := fun x_ => x_.cell (hB.cell (i := 2) rfl) (by simp)
  have k3 : ∀ x_ : Later (fun _ => False) (w.alloc (.cells #[.int .i64 x, .int .i64 y, .int .i64 cp, .int .i64 st, .int .i64 en] 47)), x_.val.cell? ⟨w.heap.size, 3, none⟩ = some (.int .i64 st) := fun x_ => x_.cell (hB.cell (i := 3) rfl) (by simp)
  have k4 : ∀ x_ : Later (fun _ => False) (w.alloc (.cells #[.int .i64 x, .int .i64 y, .int .i64 cp, .int .i64 st, .int .i64 en] 47)), x_.val.cell? ⟨w.heap.size, 4, none⟩ = some (.int .i64 en) := fun x_ => x_.cell (hB.cell (i := 4) rfl) (by simp)
  replace hB := Lib.hid hB
  go_enter Try.func30, Try.ntmps30
  go_wp2_with fail
  refine wp_region_then (C := fun w' => ∃ x_ : Later (fun _ => False) (w.alloc (.cells #[.int .i64 x, .int .i64 y, .int .i64 cp, .int .i64 st, .int .i64 en] 47)), w' = x_.val) 20 (by kernel_rfl) (by kernel_rfl) ⟨⟨_, (Mod.refl _ _).drew⟩, rfl⟩ ?_
  simp only [List.take_succ_cons, List.take_zero]
  repeat (go_big_quiet_step ((first | (go_at_call 50; with_reducible exact Calls.later (p0 _).out) | (go_at_call 54; with_reducible exact Calls.later (p1 _).out) | (go_at_call 54; with_reducible exact Calls.later (p2 _).out) | (go_at_call 54; with_reducible exact Calls.later (p3 _).out))))
  refine wpQuiet_nil ?_
  rintro _ ⟨x_, rfl⟩
  refine wpAny_ready (rs := [20]) (by kernel_rfl) (by simp) ?_
  refine AllReady.cons rfl (fun K hK => ?_) AllReady.nil
  go_simp
  refine hK _ _ ?_
  clear hK K
  refine wpAny_ready (rs := [21]) (by kernel_rfl) (by simp) ?_
  refine AllReady.cons rfl (fun K hK => ?_) AllReady.nil
  go_simp
  refine (firstV_calls _ _ _ _ (Blk.new _ _ _)).mono ?_
  rintro e w2 ⟨rfl, hb2⟩
  refine hK _ _ ?_
  clear hK K
  refine wpAny_ready (rs := [22]) (by kernel_rfl) (by simp) ?_
  refine AllReady.cons rfl (fun K hK => ?_) AllReady.nil
  go_simp
  refine hK _ _ ?_
  clear hK K
  refine wpAny_done (by kernel_rfl) ?_ _
  go_wp2
  go_ret
  exact ⟨rfl, (((hM.trans x_.mod).alloc _).after hb2).below (Nat.le_refl _) (fun _ h => h.elim)⟩

/-- a vehicle's numbers may be: the first error -/
def vehCode (x y cp st en : Int) : Int := firstV (plB x y) (decide (1 ≤ cp ∧ cp ≤ 100000) && (decide (0 ≤ st ∧ st ≤ en) && decide (0 ≤ en ∧ en ≤ 1048576)))
theorem vehicle_calls (x y cp st en : Int) (w : World) :
    Calls Try.prog 30 #[.agg #[.int .i64 x, .int .i64 y, .int .i64 cp, .int .i64 st, .int .i64 en]] w fun e w' => e = .returned (.int .i64 (vehCode x y cp st en)) ∧ Below w.heap.size w w' := by
  have p0 := fun w => Lib.hid (place_calls x y w)
  have p1 := fun w => Lib.hid (within_below cp 1 100000 w)
  have p2 := fun w => Lib.hid (within_below st 0 en w)
  have p3 := fun w => Lib.hid (within_below en 0 1048576 w)
  unfold vehCode
  generalize plB x y = b0 at p0 ⊢
  generalize decide (1 ≤ cp ∧ cp ≤ 100000) = b1 at p1 ⊢
  generalize decide (0 ≤ st ∧ st ≤ en) = b2 at p2 ⊢
  generalize decide (0 ≤ en ∧ en ≤ 1048576) = b3 at p3 ⊢
  cases b1
  · exact veh_f x y cp st en b0 w p0 p1
  · cases b2
    · exact veh_tf x y cp st en b0 w p0 p1 p2
    · exact veh_tt x y cp st en b0 b3 w p0 p1 p2 p3
end Go.Proofs.Ytpbmeeogledmdae
namespace Go.Proofs.Ytpbmeeogledmdae
open Go.RowKit

/-- by how much two numbers differ -/
def ap1 (a b : Int) : Int := if a < b then b - a else a - b
theorem ap1_bd {a b : Int} (ha : 0 ≤ a ∧ a < 1024) (hb : 0 ≤ b ∧ b < 1024) : 0 ≤ ap1 a b ∧ ap1 a b < 1024 := by unfold ap1; split <;> omega
theorem apart_calls (a b : Int) (w : World) (ha : 0 ≤ a ∧ a < 1024) (hb : 0 ≤ b ∧ b < 1024) :
    Calls Try.prog 51 #[.int .i64 a, .int .i64 b] w fun e w' => e = .returned (.int .i64 (ap1 a b)) ∧ w' = w := by
  unfold ap1
  by_cases h : a < b
  · rw [if_pos h]
    have s1 : IntKind.i64.wrap (b - a) = b - a := IntWalk.i64_in _ (by omega)
    go_enter Try.func51, Try.ntmps51
    go_wp2
    go_ret
    exact ⟨rfl, rfl⟩
  · rw [if_neg h]
    by_cases e : b < a
    · have s1 : IntKind.i64.wrap (a - b) = a - b := IntWalk.i64_in _ (by omega)
      go_enter Try.func51, Try.ntmps51
      go_wp2
      go_ret
      exact ⟨rfl, rfl⟩
    · obtain rfl : a = b := by omega
      have s1 : IntKind.i64.wrap (a - a) = a - a := IntWalk.i64_in _ (by omega)
      go_enter Try.func51, Try.ntmps51
      go_wp2
      go_ret
      exact ⟨rfl, rfl⟩
/-- how far it is -/
def dsP (x y u v : Int) : Int := if plB x y && plB u v then ap1 x u + ap1 y v else 0
theorem plB_rg {x y : Int} (h : plB x y = true) : (0 ≤ x ∧ x < 1024) ∧ (0 ≤ y ∧ y < 1024) := by
  have := of_decide_eq_true h
  omega
theorem dsP_bd (x y u v : Int) : 0 ≤ dsP x y u v ∧ dsP x y u v < 2048 := by
  unfold dsP
  split
  · rename_i h
    rw [Bool.and_eq_true] at h
    have h1 := plB_rg h.1
    have h2 := plB_rg h.2
    have h3 := ap1_bd h1.1 h2.1
    have h4 := ap1_bd h1.2 h2.2
    omega
  · omega
set_option maxRecDepth 100000 in
theorem dist_calls (x y u v : Int) (w : World) :
    Calls Try.prog 27 #[.agg #[.int .i64 x, .int .i64 y], .agg #[.int .i64 u, .int .i64 v]] w fun e w' => e = .returned (.int .i64 (dsP x y u v)) ∧ Below w.heap.size w w' := by
  have p0 := Lib.hid (fun w => place_calls x y w)
  have p1 := Lib.hid (fun w => place_calls u v w)
  have hX : dsP x y u v = if plB x y && plB u v then ap1 x u + ap1 y v else 0 := rfl
  have hr : Hid (plB x y = true → plB u v = true → (0 ≤ ap1 x u ∧ ap1 x u < 1024) ∧ (0 ≤ ap1 y v ∧ ap1 y v < 1024)) := Lib.hid (fun h1 h2 => ⟨ap1_bd (plB_rg h1).1 (plB_rg h2).1, ap1_bd (plB_rg h1).2 (plB_rg h2).2⟩)
  have ha := Lib.hid (fun (h1 : plB x y = true) (h2 : plB u v = true) (w : World) => apart_calls x u w (plB_rg h1).1 (plB_rg h2).1)
  have hb := Lib.hid (fun (h1 : plB x y = true) (h2 : plB u v = true) (w : World) => apart_calls y v w (plB_rg h1).2 (plB_rg h2).2)
  generalize dsP x y u v = X at hX ⊢
  generalize plB x y = b1 at p0 hX hr ha hb
  generalize plB u v = b2 at p1 hX hr ha hb
  have B0 := (Blk.new w #[.int .i64 x, .int .i64 y] 45).alloc (.cells #[.int .i64 u, .int .i64 v] 45)
  have B1 := Blk.new' w (.cells #[.int .i64 x, .int .i64 y] 45) #[.int .i64 u, .int .i64 v] 45
  have hl := ((Below.refl w.heap.size w).alloc (Nat.le_refl _) (.cells #[.int .i64 x, .int .i64 y] 45)).alloc (by simp) (.cells #[.int .i64 u, .int .i64 v] 45)
  go_enter Try.func27, Try.ntmps27
  go_upto_region 1 with fail
  refine wp_world (fun wx => Blk wx w.heap.size #[.int .i64 x, .int .i64 y] 45 ∧ Blk wx (w.heap.size + 1) #[.int .i64 u, .int .i64 v] 45 ∧ Below w.heap.size w wx) ⟨B0, B1, hl⟩ ?_
  rintro w0 ⟨C0, C1, l0⟩
  have k0 := C0.cell (i := 0) rfl
  have k1 := C0.cell (i := 1) rfl
  go_wp2_with fail
  refine (p0.out _).mono ?_
  rintro e w1 ⟨rfl, hb1⟩
  have C0' := C0.mod ((Mod.refl (fun _ => False) _).after hb1) (fun h => h)
  have C1' := C1.mod ((Mod.refl (fun _ => False) _).after hb1) (fun h => h)
  have l1 := l0.trans (hb1.mono l0.size)
  clear k0 k1 C0 C1 l0 hb1 B0 B1 hl
  have k0 := C1'.cell (i := 0) rfl
  have k1 := C1'.cell (i := 1) rfl
  cases b1 with
  | false =>
    obtain rfl : X = 0 := hX
    go_wp2_with fail
    go_ret
    exact ⟨rfl, l1⟩
  | true =>
    go_wp2_with fail
    refine (p1.out _).mono ?_
    rintro e w2 ⟨rfl, hb2⟩
    have C0 := C0'.mod ((Mod.refl (fun _ => False) _).after hb2) (fun h => h)
    have C1 := C1'.mod ((Mod.refl (fun _ => False) _).after hb2) (fun h => h)
    have l2 := l1.trans (hb2.mono l1.size)
    clear k0 k1 C0' C1' l1 hb2
    cases b2 with
    | false =>
      obtain rfl : X = 0 := hX
      go_wp2_with fail
      go_ret
      exact ⟨rfl, l2⟩
    | true =>
      obtain rfl : X = ap1 x u + ap1 y v := hX
      obtain ⟨h1, h2⟩ := hr.out (by simp) (by simp)
      have s1 : IntKind.i64.wrap (ap1 x u + ap1 y v) = ap1 x u + ap1 y v := IntWalk.i64_in _ (by omega)
      have k0 := C0.cell (i := 0) rfl
      have k1 := C0.cell (i := 1) rfl
      have k2 := C1.cell (i := 0) rfl
      have k3 := C1.cell (i := 1) rfl
      go_upto_region 3 with fail
      go_quiet ((first | (go_at_call 51; with_reducible exact Calls.quiet_of_same (ha.out (by simp) (by simp) _)) | (go_at_call 51; with_reducible exact Calls.quiet_of_same (hb.out (by simp) (by simp) _))))
      go_wp2_with fail
      go_ret
      exact ⟨rfl, below_drewN l2 _⟩
end Go.Proofs.Ytpbmeeogledmdae
namespace Go.Proofs.Ytpbmeeogledmdae
open Go.RowKit

def mx (t e : Int) : Int := if t < e then e else t
/-- may one wait? -/
def waB (e l t : Int) : Bool := wiB e l && decide (mx t e ≤ l)
def waN (e l t : Int) : Int := if waB e l t then mx t e else 0
theorem do_calls (A B : Nat) (e l t : Int) (w : World) (hA : Blk w A #[.int .i64 e, .int .i64 l] 59) (hB : Blk w B #[.int .i64 t] 3) :
    Calls Try.prog 65 #[.pointer (some ⟨A, 0, none⟩), .pointer (some ⟨B, 0, none⟩)] w fun r w' => r = .returned (.tuple #[.int .i64 (mx t e), .bool (decide (mx t e ≤ l))]) ∧ Below w.heap.size w w' := by
  have k0 := hA.cell (i := 0) rfl
  have k1 := hA.cell (i := 1) rfl
  have k2 := hB.cell (i := 0) rfl
  have hb : ∀ o, Below w.heap.size w (w.alloc o) := fun o => new_below w o
  have hM : ∀ n, (if t < e then e else t) = n → mx t e = n := fun n h => h
  by_cases h : t < e
  · have hm : mx t e = e := hM e (if_pos h)
    rw [hm]
    go_enter Try.func65, Try.ntmps65
    go_upto_region 2 with fail
    go_quiet (fail)
    go_wp2
    go_ret2
    exact ⟨rfl, below_drewN (hb _) _⟩
  · have hm : mx t e = t := hM t (if_neg h)
    rw [hm]
    go_enter Try.func65, Try.ntmps65
    go_upto_region 2 with fail
    go_quiet (fail)
    go_wp2
    go_ret2
    exact ⟨rfl, below_drewN (hb _) _⟩
theorem run_span (e l : Int) (w : World) : (Instr.build 159 #[(0, .agg #[.int .i64 e, .int .i64 l])]).run Try.prog w = .ok (.agg #[.int .i64 e, .int .i64 l]) w := by kernel_rfl
theorem asked_calls (A B S : Nat) (e l t : Int) (w : World) (hA : Blk w A #[.int .i64 e, .int .i64 l] 59) (hB : Blk w B #[.int .i64 t] 3) (hS : Blk w S #[.int .i64 e, .int .i64 l] 59) :
    Calls Try.prog 64 #[.func (.func 65) #[] #[.pointer (some ⟨A, 0, none⟩), .pointer (some ⟨B, 0, none⟩)], .slice (some ⟨S, 0, none⟩) 1 1] w fun r w' => r = .returned (.tuple #[.int .i64 (waN e l t), .bool (waB e l t)]) ∧ Below w.heap.size w w' := by
  have k0 := hS.cell (i := 0) rfl
  have k1 := hS.cell (i := 1) rfl
  have hsl := hS.lt
  have hsp := Lib.hid (fun w => span_calls e l w)
  have hdo := Lib.hid (fun (w' : World) (h : Below w.heap.size w w') => do_calls A B e l t w' (hA.mod ((Mod.refl (fun _ => False) _).after h) (fun h => h)) (hB.mod ((Mod.refl (fun _ => False) _).after h) (fun h => h)))
  have hN : waN e l t = if waB e l t then mx t e else 0 := rfl
  have hW : waB e l t = (wiB e l && decide (mx t e ≤ l)) := rfl
  generalize waN e l t = N at hN ⊢
  generalize waB e l t = W at hN hW ⊢
  generalize mx t e = m at hdo hN hW
  generalize wiB e l = b at hsp hW
  generalize decide (m ≤ l) = c at hdo hW
  replace hN := Lib.hid hN
  replace hW := Lib.hid hW
  clear hA hB hS
  go_enter Try.func64, Try.ntmps64
  go_wp2_with fail
  refine wp_loop_rounds 2 ?_
  rw [rounds_succ]
  go_wp2_with (refine wpList_build1_v rfl 159 0 _ rfl (.agg #[.int .i64 e, .int .i64 l]) rfl _ (run_span e l _) ?_)
  refine (hsp.out _).mono ?_
  rintro r w1 ⟨rfl, hb1⟩
  have l1 := (new_below w _).trans (hb1.mono (by simp))
  cases b with
  | false =>
    obtain rfl : W = false := hW.out
    obtain rfl : N = 0 := hN.out
    go_wp2_with fail
    go_ret2
    exact ⟨rfl, l1⟩
  | true =>
    obtain rfl : W = c := hW.out
    go_wp2_with fail
    rw [rounds_succ]
    go_wp2_with fail
    refine (hdo.out _ l1).mono ?_
    rintro r w2 ⟨rfl, hb2⟩
    have l2 := l1.trans (hb2.mono l1.size)
    cases W with
    | false =>
      obtain rfl : N = 0 := hN.out
      go_wp2_with fail
      go_ret2
      exact ⟨rfl, l2⟩
    | true =>
      obtain rfl : N = m := hN.out
      go_wp2_with fail
      go_ret2
      exact ⟨rfl, l2⟩
theorem wait_calls (e l t : Int) (w : World) :
    Calls Try.prog 47 #[.agg #[.int .i64 e, .int .i64 l], .int .i64 t] w fun r w' => r = .returned (.tuple #[.int .i64 (waN e l t), .bool (waB e l t)]) ∧ Below w.heap.size w w' := by
  have hl := (((Below.refl w.heap.size w).alloc (Nat.le_refl _) (.cells #[.int .i64 e, .int .i64 l] 59)).alloc (by simp) (.cells #[.int .i64 t] 3)).alloc (by simp; omega) (.cells #[.int .i64 e, .int .i64 l] 59)
  have hc := asked_calls w.heap.size (w.heap.size + 1) (w.heap.size + 1 + 1) e l t _ (((Blk.new w #[.int .i64 e, .int .i64 l] 59).alloc (.cells #[.int .i64 t] 3)).alloc (.cells #[.int .i64 e, .int .i64 l] 59))
    ((Blk.new' w (.cells #[.int .i64 e, .int .i64 l] 59) #[.int .i64 t] 3).alloc (.cells #[.int .i64 e, .int .i64 l] 59)) (blk_new3 w _ _ _ _)
  replace hc := Lib.hid hc
  go_enter Try.func47, Try.ntmps47
  go_wp2_with fail
  refine hc.out.mono ?_
  rintro r w1 ⟨rfl, hb1⟩
  go_wp2
  go_ret2
  exact ⟨rfl, hl.trans (hb1.mono hl.size)⟩
end Go.Proofs.Ytpbmeeogledmdae
namespace Go.Proofs.Ytpbmeeogledmdae
open Go.RowKit


def haB (e l t : Int) : Bool := wiB e l && (decide (e ≤ t) && decide (t ≤ l))
end Go.Proofs.Ytpbmeeogledmdae
