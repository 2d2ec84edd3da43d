/-
  Layer 4: order.Vehicle, and the document's.
  Layers 2 to 4: how far it is; when one begins; the document's Vehicle.
  Layer 3: window.Wait.
  The document's layers 2 to 4: Dist, Wait, Vehicle.
-/
import Derived.Test.YtaijimckbpplnaaOrd
namespace Go.Proofs.Ytaijimckbpplnaa
open Go.RowKit

/-- the first code of two needs that does not hold -/
def firstV (b1 b2 : Bool) : Int := if !b1 then 4 else if !b2 then 7 else 0
theorem firstV_calls (B : Nat) (b1 b2 : Bool) (w : World) (hB : Blk w B #[.bool b1, .int .i64 4, .bool b2, .int .i64 7] 88) :
    Calls Try.prog 45 #[.slice (some ⟨B, 0, none⟩) 2 2] w fun e w' => e = .returned (.int .i64 (firstV b1 b2)) ∧ Below w.heap.size w w' := by
  have hbl := hB.lt
  have g1 : ∀ o1 : Obj, Below w.heap.size w (w.alloc o1) := fun o1 => (Below.refl _ _).alloc (Nat.le_refl _) o1
  have g2 : ∀ o1 o2 : Obj, Below w.heap.size w ((w.alloc o1).alloc o2) := fun o1 o2 => (g1 o1).alloc (by simp) o2
  have c0 := hB.cell (i := 0) rfl
  have c1 := hB.cell (i := 1) rfl
  have c2 := hB.cell (i := 2) rfl
  have c3 := hB.cell (i := 3) rfl
  cases b1
  · go_enter Try.func45, Try.ntmps45
    go_wp2_with fail
    refine wp_loop_rounds 1 ?_
    rw [rounds_succ]; go_wp2_with fail
    go_ret
    exact ⟨rfl, g1 _⟩
  · cases b2
    · go_enter Try.func45, Try.ntmps45
      go_wp2_with fail
      refine wp_loop_rounds 2 ?_
      rw [rounds_succ]; go_wp2_with fail
      rw [rounds_succ]; go_wp2_with fail
      go_ret
      exact ⟨rfl, g2 _ _⟩
    · go_enter Try.func45, Try.ntmps45
      go_wp2_with fail
      refine wp_loop_rounds 3 ?_
      rw [rounds_succ]; go_wp2_with fail
      rw [rounds_succ]; go_wp2_with fail
      rw [rounds_succ]; go_wp2_with fail
      go_ret
      exact ⟨rfl, g2 _ _⟩

set_option maxHeartbeats 2000000 in
set_option maxRecDepth 100000 in
theorem veh_f (x y cp st en : Int) (b0 : Bool) (w : World)
    (p0 : ∀ w, Hid (Calls Try.prog 46 #[.agg #[.int .i64 x, .int .i64 y]] w fun e w' => e = .returned (.bool b0) ∧ Below w.heap.size w w'))
    (p1 : ∀ w, Hid (Calls Try.prog 47 #[.int .i64 cp, .int .i64 1, .int .i64 100000] w fun e w' => e = .returned (.bool false) ∧ Below w.heap.size w w')) :
    Calls Try.prog 27 #[.agg #[.int .i64 x, .int .i64 y, .int .i64 cp, .int .i64 st, .int .i64 en]] w fun e w' => e = .returned (.int .i64 (firstV b0 false)) ∧ Below w.heap.size w w' := by
  have hB := Blk.new w #[.int .i64 x, .int .i64 y, .int .i64 cp, .int .i64 st, .int .i64 en] 32
  have hM : Mod (fun _ => False) w (w.alloc (.cells #[.int .i64 x, .int .i64 y, .int .i64 cp, .int .i64 st, .int .i64 en] 32)) := (Mod.refl _ _).alloc _
  have k0 : ∀ x_ : Later (fun _ => False) (w.alloc (.cells #[.int .i64 x, .int .i64 y, .int .i64 cp, .int .i64 st, .int .i64 en] 32)), x_.val.cell? ⟨w.heap.size, 0, none⟩ = some (.int .i64 x) := fun x_ => x_.cell (hB.cell (i := 0) rfl) (by simp)
  have k1 : ∀ x_ : Later (fun _ => False) (w.alloc (.cells #[.int .i64 x, .int .i64 y, .int .i64 cp, .int .i64 st, .int .i64 en] 32)), x_.val.cell? ⟨w.heap.size, 1, none⟩ = some (.int .i64 y) := fun x_ => x_.cell (hB.cell (i := 1) rfl) (by simp)
  have k2 : ∀ x_ : Later (fun _ => False) (w.alloc (.cells #[.int .i64 x, .int .i64 y, .int .i64 cp, .int .i64 st, .int .i64 en] 32)), x_.val.cell? ⟨w.heap.size, 2, none⟩ = some (.int .i64 cp) := fun x_ => x_.cell (hB.cell (i := 2) rfl) (by simp)
  have k3 : ∀ x_ : Later (fun _ => False) (w.alloc (.cells #[.int .i64 x, .int .i64 y, .int .i64 cp, .int .i64 st, .int .i64 en] 32)), x_.val.cell? ⟨w.heap.size, 3, none⟩ = some (.int .i64 st) := fun x_ => x_.cell (hB.cell (i := 3) rfl) (by simp)
  have k4 : ∀ x_ : Later (fun _ => False) (w.alloc (.cells #[.int .i64 x, .int .i64 y, .int .i64 cp, .int .i64 st, .int .i64 en] 32)), x_.val.cell? ⟨w.heap.size, 4, none⟩ = some (.int .i64 en) := fun x_ => x_.cell (hB.cell (i := 4) rfl) (by simp)
  replace hB := Lib.hid hB
  go_enter Try.func27, Try.ntmps27
  go_wp2_with fail
  refine wp_region_then (C := fun w' => ∃ x_ : Later (fun _ => False) (w.alloc (.cells #[.int .i64 x, .int .i64 y, .int .i64 cp, .int .i64 st, .int .i64 en] 32)), w' = x_.val) 20 (by kernel_rfl) (by kernel_rfl) ⟨⟨_, (Mod.refl _ _).drew⟩, rfl⟩ ?_
  simp only [List.take_succ_cons, List.take_zero]
  repeat (go_big_quiet_step ((first | (go_at_call 46; with_reducible exact Calls.later (p0 _).out) | (go_at_call 47; with_reducible exact Calls.later (p1 _).out))))
  refine wpQuiet_nil ?_
  rintro _ ⟨x_, rfl⟩
  refine wpAny_ready (rs := [20]) (by kernel_rfl) (by simp) ?_
  refine AllReady.cons rfl (fun K hK => ?_) AllReady.nil
  go_simp
  refine hK _ _ ?_
  clear hK K
  refine wpAny_ready (rs := [21]) (by kernel_rfl) (by simp) ?_
  refine AllReady.cons rfl (fun K hK => ?_) AllReady.nil
  go_simp
  refine (firstV_calls _ _ _ _ (Blk.new _ _ _)).mono ?_
  rintro e w2 ⟨rfl, hb2⟩
  refine hK _ _ ?_
  clear hK K
  refine wpAny_ready (rs := [22]) (by kernel_rfl) (by simp) ?_
  refine AllReady.cons rfl (fun K hK => ?_) AllReady.nil
  go_simp
  refine hK _ _ ?_
  clear hK K
  refine wpAny_done (by kernel_rfl) ?_ _
  go_wp2
  go_ret
  exact ⟨rfl, (((hM.trans x_.mod).alloc _).after hb2).below (Nat.le_refl _) (fun _ h => h.elim)⟩

set_option maxHeartbeats 2000000 in
set_option maxRecDepth 100000 in
theorem veh_tf (x y cp st en : Int) (b0 : Bool) (w : World)
    (p0 : ∀ w, Hid (Calls Try.prog 46 #[.agg #[.int .i64 x, .int .i64 y]] w fun e w' => e = .returned (.bool b0) ∧ Below w.heap.size w w'))
    (p1 : ∀ w, Hid (Calls Try.prog 47 #[.int .i64 cp, .int .i64 1, .int .i64 100000] w fun e w' => e = .returned (.bool true) ∧ Below w.heap.size w w'))
    (p2 : ∀ w, Hid (Calls Try.prog 47 #[.int .i64 st, .int .i64 0, .int .i64 en] w fun e w' => e = .returned (.bool false) ∧ Below w.heap.size w w')) :
    Calls Try.prog 27 #[.agg #[.int .i64 x, .int .i64 y, .int .i64 cp, .int .i64 st, .int .i64 en]] w fun e w' => e = .returned (.int .i64 (firstV b0 false)) ∧ Below w.heap.size w w' := by
  have hB := Blk.new w #[.int .i64 x, .int .i64 y, .int .i64 cp, .int .i64 st, .int .i64 en] 32
  have hM : Mod (fun _ => False) w (w.alloc (.cells #[.int .i64 x, .int .i64 y, .int .i64 cp, .int .i64 st, .int .i64 en] 32)) := (Mod.refl _ _).alloc _
  have k0 : ∀ x_ : Later (fun _ => False) (w.alloc (.cells #[.int .i64 x, .int .i64 y, .int .i64 cp, .int .i64 st, .int .i64 en] 32)), x_.val.cell? ⟨w.heap.size, 0, none⟩ = some (.int .i64 x) := fun x_ => x_.cell (hB.cell (i := 0) rfl) (by simp)
  have k1 : ∀ x_ : Later (fun _ => False) (w.alloc (.cells #[.int .i64 x, .int .i64 y, .int .i64 cp, .int .i64 st, .int .i64 en] 32)), x_.val.cell? ⟨w.heap.size, 1, none⟩ = some (.int .i64 y) := fun x_ => x_.cell (hB.cell (i := 1) rfl) (by simp)
  have k2 : ∀ x_ : Later (fun _ => False) (w.alloc (.cells #[.int .i64 x, .int .i64 y, .int .i64 cp, .int .i64 st, .int .i64 en] 32)), x_.val.cell? ⟨w.heap.size, 2, none⟩ = some (.int .i64 cp) := fun x_ => x_.cell (hB.cell (i := 2) rfl) (by simp)
  have k3 : ∀ x_ : Later (fun _ => False) (w.alloc (.cells #[.int .i64 x, .int .i64 y, .int .i64 cp, .int .i64 st, .int .i64 en] 32)), x_.val.cell? ⟨w.heap.size, 3, none⟩ = some (.int .i64 st) := fun x_ => x_.cell (hB.cell (i := 3) rfl) (by simp)
  have k4 : ∀ x_ : Later (fun _ => False) (w.alloc (.cells #[.int .i64 x, .int .i64 y, .int .i64 cp, .int .i64 st, .int .i64 en] 32)), x_.val.cell? ⟨w.heap.size, 4, none⟩ = some (.int .i64 en) := fun x_ => x_.cell (hB.cell (i := 4) rfl) (by simp)
  replace hB := Lib.hid hB
  go_enter Try.func27, Try.ntmps27
  go_wp2_with fail
  refine wp_region_then (C := fun w' => ∃ x_ : Later (fun _ => False) (w.alloc (.cells #[.int .i64 x, .int .i64 y, .int .i64 cp, .int .i64 st, .int .i64 en] 32)), w' = x_.val) 20 (by kernel_rfl) (by kernel_rfl) ⟨⟨_, (Mod.refl _ _).drew⟩, rfl⟩ ?_
  simp only [List.take_succ_cons, List.take_zero]
  repeat (go_big_quiet_step ((first | (go_at_call 46; with_reducible exact Calls.later (p0 _).out) | (go_at_call 47; with_reducible exact Calls.later (p1 _).out) | (go_at_call 47; with_reducible exact Calls.later (p2 _).out))))
  refine wpQuiet_nil ?_
  rintro _ ⟨x_, rfl⟩
  refine wpAny_ready (rs := [20]) (by kernel_rfl) (by simp) ?_
  refine AllReady.cons rfl (fun K hK => ?_) AllReady.nil
  go_simp
  refine hK _ _ ?_
  clear hK K
  refine wpAny_ready (rs := [21]) (by kernel_rfl) (by simp) ?_
  refine AllReady.cons rfl (fun K hK => ?_) AllReady.nil
  go_simp
  refine (firstV_calls _ _ _ _ (Blk.new _ _ _)).mono ?_
  rintro e w2 ⟨rfl, hb2⟩
  refine hK _ _ ?_
  clear hK K
  refine wpAny_ready (rs := [22]) (by kernel_rfl) (by simp) ?_
  refine AllReady.cons rfl (fun K hK => ?_) AllReady.nil
  go_simp
  refine hK _ _ ?_
  clear hK K
  refine wpAny_done (by kernel_rfl) ?_ _
  go_wp2
  go_ret
  exact ⟨rfl, (((hM.trans x_.mod).alloc _).after hb2).below (Nat.le_refl _) (fun _ h => h.elim)⟩

set_option maxHeartbeats 2000000 in
set_option maxRecDepth 100000 in
theorem veh_tt (x y cp st en : Int) (b0 b3 : Bool) (w : World)
    (p0 : ∀ w, Hid (Calls Try.prog 46 #[.agg #[.int .i64 x, .int .i64 y]] w fun e w' => e = .returned (.bool b0) ∧ Below w.heap.size w w'))
    (p1 : ∀ w, Hid (Calls Try.prog 47 #[.int .i64 cp, .int .i64 1, .int .i64 100000] w fun e w' => e = .returned (.bool true) ∧ Below w.heap.size w w'))
    (p2 : ∀ w, Hid (Calls Try.prog 47 #[.int .i64 st, .int .i64 0, .int .i64 en] w fun e w' => e = .returned (.bool true) ∧ Below w.heap.size w w'))
    (p3 : ∀ w, Hid (Calls Try.prog 47 #[.int .i64 en, .int .i64 0, .int .i64 1048576] w fun e w' => e = .returned (.bool b3) ∧ Below w.heap.size w w')) :
    Calls Try.prog 27 #[.agg #[.int .i64 x, .int .i64 y, .int .i64 cp, .int .i64 st, .int .i64 en]] w fun e w' => e = .returned (.int .i64 (firstV b0 b3)) ∧ Below w.heap.size w w' := by
  have hB := Blk.new w #[.int .i64 x, .int .i64 y, .int .i64 cp, .int .i64 st, .int .i64 en] 32
  have hM : Mod (fun _ => False) w (w.alloc (.cells #[.int .i64 x, .int .i64 y, .int .i64 cp, .int .i64 st, .int .i64 en] 32)) := (Mod.refl _ _).alloc _
  have k0 : ∀ x_ : Later (fun _ => False) (w.alloc (.cells #[.int .i64 x, .int .i64 y, .int .i64 cp, .int .i64 st, .int .i64 en] 32)), x_.val.cell? ⟨w.heap.size, 0, none⟩ = some (.int .i64 x) := fun x_ => x_.cell (hB.cell (i := 0) rfl) (by simp)
  have k1 : ∀ x_ : Later (fun _ => False) (w.alloc (.cells #[.int .i64 x, .int .i64 y, .int .i64 cp, .int .i64 st, .int .i64 en] 32)), x_.val.cell? ⟨w.heap.size, 1, none⟩ = some (.int .i64 y) := fun x_ => x_.cell (hB.cell (i := 1) rfl) (by simp)
  have k2 : ∀ x_ : Later (fun _ => False) (w.alloc (.cells #[.int .i64 x, .int .i64 y, .int .i64 cp, .int .i64 st, .int .i64 en] 32)), x_.val.cell? ⟨w.heap.size, 2, none⟩ = some (.int .i64 cp) := fun x_ => x_.cell (hB.cell (i := 2) rfl) (by simp)
  have k3 : ∀ x_ : Later (fun _ => False) (w.alloc (.cells #[.int .i64 x, .int .i64 y, .int .i64 cp, .int .i64 st, .int .i64 en] 32)), x_.val.cell? ⟨w.heap.size, 3, none⟩ = some (.int .i64 st) := fun x_ => x_.cell (hB.cell (i := 3) rfl) (by simp)
  have k4 : ∀ x_ : Later (fun _ => False) (w.alloc (.cells #[.int .i64 x, .int .i64 y, .int .i64 cp, .int .i64 st, .int .i64 en] 32)), x_.val.cell? ⟨w.heap.size, 4, none⟩ = some (.int .i64 en) := fun x_ => x_.cell (hB.cell (i := 4) rfl) (by simp)
  replace hB := Lib.hid hB
  go_enter Try.func27, Try.ntmps27
  go_wp2_with fail
  refine wp_region_then (C := fun w' => ∃ x_ : Later (fun _ => False) (w.alloc (.cells #[.int .i64 x, .int .i64 y, .int .i64 cp, .int .i64 st, .int .i64 en] 32)), w' = x_.val) 20 (by kernel_rfl) (by kernel_rfl) ⟨⟨_, (Mod.refl _ _).drew⟩, rfl⟩ ?_
  simp only [List.take_succ_cons, List.take_zero]
  repeat (go_big_quiet_step ((first | (go_at_call 46; with_reducible exact Calls.later (p0 _).out) | (go_at_call 47; with_reducible exact Calls.later (p1 _).out) | (go_at_call 47; with_reducible exact Calls.later (p2 _).out) | (go_at_call 47; with_reducible exact Calls.later (p3 _).out))))
  refine wpQuiet_nil ?_
  rintro _ ⟨x_, rfl⟩
  refine wpAny_ready (rs := [20]) (by kernel_rfl) (by simp) ?_
  refine AllReady.cons rfl (fun K hK => ?_) AllReady.nil
  go_simp
  refine hK _ _ ?_
  clear hK K
  refine wpAny_ready (rs := [21]) (by kernel_rfl) (by simp) ?_
  refine AllReady.cons rfl (fun K hK => ?_) AllReady.nil
  go_simp
  refine (firstV_calls _ _ _ _ (Blk.new _ _ _)).mono ?_
  rintro e w2 ⟨rfl, hb2⟩
  refine hK _ _ ?_
  clear hK K
  refine wpAny_ready (rs := [22]) (by kernel_rfl) (by simp) ?_
  refine AllReady.cons rfl (fun K hK => ?_) AllReady.nil
  go_simp
  refine hK _ _ ?_
  clear hK K
  refine wpAny_done (by kernel_rfl) ?_ _
  go_wp2
  go_ret
  exact ⟨rfl, (((hM.trans x_.mod).alloc _).after hb2).below (Nat.le_refl _) (fun _ h => h.elim)⟩

/-- a vehicle's numbers may be: the first error -/
def vehCode (x y cp st en : Int) : Int := firstV (plB x y) (decide (1 ≤ cp ∧ cp ≤ 100000) && (decide (0 ≤ st ∧ st ≤ en) && decide (0 ≤ en ∧ en ≤ 1048576)))
theorem vehicle_calls (x y cp st en : Int) (w : World) :
    Calls Try.prog 27 #[.agg #[.int .i64 x, .int .i64 y, .int .i64 cp, .int .i64 st, .int .i64 en]] w fun e w' => e = .returned (.int .i64 (vehCode x y cp st en)) ∧ Below w.heap.size w w' := by
  have p0 := fun w => Lib.hid (place_calls x y w)
  have p1 := fun w => Lib.hid (within_below cp 1 100000 w)
  have p2 := fun w => Lib.hid (within_below st 0 en w)
  have p3 := fun w => Lib.hid (within_below en 0 1048576 w)
  unfold vehCode
  generalize plB x y = b0 at p0 ⊢
  generalize decide (1 ≤ cp ∧ cp ≤ 100000) = b1 at p1 ⊢
  generalize decide (0 ≤ st ∧ st ≤ en) = b2 at p2 ⊢
  generalize decide (0 ≤ en ∧ en ≤ 1048576) = b3 at p3 ⊢
  cases b1
  · exact veh_f x y cp st en b0 w p0 p1
  · cases b2
    · exact veh_tf x y cp st en b0 w p0 p1 p2
    · exact veh_tt x y cp st en b0 b3 w p0 p1 p2 p3
end Go.Proofs.Ytaijimckbpplnaa
namespace Go.Proofs.Ytaijimckbpplnaa
open Go.RowKit

/-- by how much two numbers differ -/
def ap1 (a b : Int) : Int := if a < b then b - a else a - b
theorem ap1_bd {a b : Int} (ha : 0 ≤ a ∧ a < 1024) (hb : 0 ≤ b ∧ b < 1024) : 0 ≤ ap1 a b ∧ ap1 a b < 1024 := by unfold ap1; split <;> omega
/-- how far it is -/
def dsP (x y u v : Int) : Int := if plB x y && plB u v then ap1 x u + ap1 y v else 0
theorem plB_rg {x y : Int} (h : plB x y = true) : (0 ≤ x ∧ x < 1024) ∧ (0 ≤ y ∧ y < 1024) := by
  have := of_decide_eq_true h
  omega
theorem dsP_bd (x y u v : Int) : 0 ≤ dsP x y u v ∧ dsP x y u v < 2048 := by
  unfold dsP
  split
  · rename_i h
    rw [Bool.and_eq_true] at h
    have h1 := plB_rg h.1
    have h2 := plB_rg h.2
    have h3 := ap1_bd h1.1 h2.1
    have h4 := ap1_bd h1.2 h2.2
    omega
  · omega
end Go.Proofs.Ytaijimckbpplnaa
namespace Go.Proofs.Ytaijimckbpplnaa
open Go.RowKit

def mx (t e : Int) : Int := if t < e then e else t
/-- may one wait? -/
def waB (e l t : Int) : Bool := wiB e l && decide (mx t e ≤ l)
def waN (e l t : Int) : Int := if waB e l t then mx t e else 0
theorem run_span (e l : Int) (w : World) : (Instr.build 112 #[(0, .agg #[.int .i64 e, .int .i64 l])]).run Try.prog w = .ok (.agg #[.int .i64 e, .int .i64 l]) w := by kernel_rfl
end Go.Proofs.Ytaijimckbpplnaa
namespace Go.Proofs.Ytaijimckbpplnaa
open Go.RowKit

theorem vehicle_ref (x y cp st en : Int) (w : World) :
    Calls Try.prog 28 #[.agg #[.int .i64 x, .int .i64 y, .int .i64 cp, .int .i64 st, .int .i64 en]] w fun e w' => e = .returned (.int .i64 (vehCode x y cp st en)) ∧ Below w.heap.size w w' := by
  have hp := Lib.hid (fun w => mayp_ref x y w)
  have hX : vehCode x y cp st en = firstV (plB x y) (decide (1 ≤ cp ∧ cp ≤ 100000) && (decide (0 ≤ st ∧ st ≤ en) && decide (0 ≤ en ∧ en ≤ 1048576))) := rfl
  generalize vehCode x y cp st en = X at hX ⊢
  generalize plB x y = b at hp hX
  obtain ⟨q, hq⟩ : ∃ q, (decide (1 ≤ cp ∧ cp ≤ 100000) && (decide (0 ≤ st ∧ st ≤ en) && decide (0 ≤ en ∧ en ≤ 1048576))) = q := ⟨_, rfl⟩
  rw [hq] at hX
  have hq1 : q = true ↔ (1 ≤ cp ∧ cp ≤ 100000) ∧ (0 ≤ st ∧ st ≤ en) ∧ (0 ≤ en ∧ en ≤ 1048576) := by rw [← hq]; simp only [Bool.and_eq_true, decide_eq_true_eq]
  replace hq1 := Lib.hid hq1
  clear hq
  replace hX := Lib.hid hX
  obtain ⟨R, hR⟩ : ∃ R : Array Value, #[.int .i64 x, .int .i64 y, .int .i64 cp, .int .i64 st, .int .i64 en] = R := ⟨_, rfl⟩
  have g2 : R[2]? = some (.int .i64 cp) := by rw [← hR]; rfl
  have g3 : R[3]? = some (.int .i64 st) := by rw [← hR]; rfl
  have g4 : R[4]? = some (.int .i64 en) := by rw [← hR]; rfl
  have h0 := Lib.hid (fun wx (h : Blk wx w.heap.size R 32) => (show (loadVar 30 ⟨w.heap.size, 0, none⟩).run Try.prog wx = .ok (.agg #[.int .i64 x, .int .i64 y]) wx from by
    have := load_part (P := Try.prog) wx w.heap.size R 32 h 0 2 (by rw [← hR]; simp) 30 _ Try.underlying30 rfl (by kernel_rfl)
    rw [this, ← hR]; rfl))
  rw [hR]
  clear hR
  go_enter Try.func28, Try.ntmps28
  go_upto_region 1 with fail
  refine wp_world (fun wx => Blk wx w.heap.size R 32 ∧ Below w.heap.size w wx) ⟨Blk.new _ _ _, new_below _ _⟩ ?_
  rintro w1 ⟨B1, l1⟩
  replace B1 := Lib.hid B1
  go_wp2_with (refine wpList_load_v rfl 30 _ rfl ⟨w.heap.size, 0, none⟩ rfl _ (h0.out _ B1.out) ?_)
  refine (hp.out _).mono ?_
  rintro e w2 ⟨rfl, hb⟩
  have B2 := B1.out.mod ((Mod.refl (fun _ => False) _).after hb) (fun h => h)
  have l2 := l1.trans (hb.mono l1.size)
  have k2 := B2.cell g2
  have k3 := B2.cell g3
  have k4 := B2.cell g4
  clear B1 l1 hb h0 hp
  cases b with
  | false =>
    obtain rfl : X = 4 := hX.out
    go_wp2_with fail
    go_ret
    exact ⟨rfl, l2⟩
  | true =>
    have h7 : Hid (¬ (1 ≤ cp ∧ cp ≤ 100000 ∧ 0 ≤ st ∧ st ≤ en ∧ en ≤ 1048576) → X = 7) := Lib.hid (fun h => by
      have hq : q = false := by
        cases q with
        | false => rfl
        | true => exact absurd (hq1.out.1 rfl) (by omega)
      rw [hX.out, hq]; rfl)
    by_cases c1 : cp < 1
    · obtain rfl : X = 7 := h7.out (by omega)
      go_wp2_with fail
      go_ret
      exact ⟨rfl, l2⟩
    by_cases c2 : cp > 100000
    · obtain rfl : X = 7 := h7.out (by omega)
      go_wp2_with fail
      go_ret
      exact ⟨rfl, l2⟩
    by_cases c3 : st < 0
    · obtain rfl : X = 7 := h7.out (by omega)
      go_wp2_with fail
      go_ret
      exact ⟨rfl, l2⟩
    by_cases c4 : st > en
    · obtain rfl : X = 7 := h7.out (by omega)
      go_wp2_with fail
      go_ret
      exact ⟨rfl, l2⟩
    by_cases c5 : en > 1048576
    · obtain rfl : X = 7 := h7.out (by omega)
      go_wp2_with fail
      go_ret
      exact ⟨rfl, l2⟩
    obtain rfl : X = 0 := by rw [hX.out, hq1.out.2 (by omega)]; rfl
    go_wp2_with fail
    go_ret
    exact ⟨rfl, l2⟩

def haB (e l t : Int) : Bool := wiB e l && (decide (e ≤ t) && decide (t ≤ l))
end Go.Proofs.Ytaijimckbpplnaa
