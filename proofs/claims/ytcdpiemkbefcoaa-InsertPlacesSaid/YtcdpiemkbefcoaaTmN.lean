/-
  Layer 7, the program's: next.
-/
import Derived.Test.YtcdpiemkbefcoaaTmW
namespace Go.Proofs.Ytcdpiemkbefcoaa
open Go.RowKit

set_option maxHeartbeats 2000000 in
set_option maxRecDepth 100000 in
theorem next_calls (b : Nat) (ar bg lv ax ay : Int) (g : Pt) (w : World) (hB : Blk w b #[.int .i64 ar, .int .i64 bg, .int .i64 lv, .int .i64 ax, .int .i64 ay] 100)
    (s1 : IntKind.i64.wrap (lv + dsP ax ay g.x g.y) = lv + dsP ax ay g.x g.y)
    (s2 : IntKind.i64.wrap (waN g.e g.l (lv + dsP ax ay g.x g.y) + g.s) = waN g.e g.l (lv + dsP ax ay g.x g.y) + g.s) :
    Calls Try.prog 46 #[.pointer (some ⟨b, 0, none⟩), .agg g.row] w fun e w' => e = .returned (.bool (waB g.e g.l (lv + dsP ax ay g.x g.y))) ∧ Mod (· = b) w w' ∧
      Blk w' b #[.int .i64 (lv + dsP ax ay g.x g.y), .int .i64 (waN g.e g.l (lv + dsP ax ay g.x g.y)), .int .i64 (waN g.e g.l (lv + dsP ax ay g.x g.y) + g.s), .int .i64 g.x, .int .i64 g.y] 100 := by
  have hdc := Lib.hid (fun w => dist_calls ax ay g.x g.y w)
  generalize dsP ax ay g.x g.y = d at s1 s2 hdc ⊢
  have hwc := Lib.hid (fun w => wait_calls g.e g.l (lv + d) w)
  generalize waB g.e g.l (lv + d) = wb at hwc ⊢
  generalize waN g.e g.l (lv + d) = wn at s2 hwc ⊢
  have hlt := hB.lt
  have hP := Blk.new w g.row 106
  have hB1 := hB.alloc (.cells g.row 106)
  have k0 : ∀ x : Later (fun _ => False) (w.alloc (.cells g.row 106)), x.val.cell? ⟨w.heap.size, 0, none⟩ = some (.int .i64 g.x) := fun x => x.cell (hP.cell (i := 0) rfl) (fun h => h)
  have k1 : ∀ x : Later (fun _ => False) (w.alloc (.cells g.row 106)), x.val.cell? ⟨w.heap.size, 1, none⟩ = some (.int .i64 g.y) := fun x => x.cell (hP.cell (i := 1) rfl) (fun h => h)
  have b2 : ∀ x : Later (fun _ => False) (w.alloc (.cells g.row 106)), x.val.cell? ⟨b, 2, none⟩ = some (.int .i64 lv) := fun x => x.cell (hB1.cell (i := 2) rfl) (fun h => h)
  have b3 : ∀ x : Later (fun _ => False) (w.alloc (.cells g.row 106)), x.val.cell? ⟨b, 3, none⟩ = some (.int .i64 ax) := fun x => x.cell (hB1.cell (i := 3) rfl) (fun h => h)
  have b4 : ∀ x : Later (fun _ => False) (w.alloc (.cells g.row 106)), x.val.cell? ⟨b, 4, none⟩ = some (.int .i64 ay) := fun x => x.cell (hB1.cell (i := 4) rfl) (fun h => h)
  replace hP := Lib.hid hP
  replace hB1 := Lib.hid hB1
  clear hB
  go_enter Try.func46, Try.ntmps46
  go_wp2_with fail
  refine wp_region_then (C := fun w' => ∃ x : Later (fun _ => False) (w.alloc (.cells g.row 106)), w' = x.val) 14 (by kernel_rfl) (by kernel_rfl) ⟨⟨_, (Mod.refl _ _).drew⟩, rfl⟩ ?_
  simp only [List.take_succ_cons, List.take_zero]
  repeat (go_big_quiet_step (((go_at_call 44; with_reducible exact Calls.later (hdc.out _)))))
  refine wpQuiet_nil ?_
  rintro _ ⟨x, rfl⟩
  have hBx := hB1.out.mod x.mod (fun h => h)
  have hPx := hP.out.mod x.mod (fun h => h)
  have hMx : Mod (· = b) w x.val := (((Mod.refl (fun _ => False) w).alloc _).trans x.mod).mono (fun _ _ h => h.elim)
  clear k0 k1 b2 b3 b4 hB1 hP hdc
  generalize x.val = w2 at *
  have c0 := hBx.cell (i := 0) rfl
  have f0 := hBx.froz 0
  replace hBx := Lib.hid hBx
  replace hPx := Lib.hid hPx
  replace hMx := Lib.hid hMx
  refine wpAny_ready (rs := [14]) (by kernel_rfl) (by simp) ?_
  refine AllReady.cons rfl (fun K hK => ?_) AllReady.nil
  go_simp
  refine hK _ _ ?_
  clear hK K
  refine wpAny_ready (rs := [15]) (by kernel_rfl) (by simp) ?_
  refine AllReady.cons rfl (fun K hK => ?_) AllReady.nil
  go_simp
  refine hK _ _ ?_
  clear hK K
  refine wpAny_ready (rs := [16]) (by kernel_rfl) (by simp) ?_
  refine AllReady.cons rfl (fun K hK => ?_) AllReady.nil
  go_simp
  refine hK _ _ ?_
  clear hK K
  refine wpAny_ready (rs := [17]) (by kernel_rfl) (by simp) ?_
  refine AllReady.cons rfl (fun K hK => ?_) AllReady.nil
  go_simp
  refine hK _ _ ?_
  clear hK K
  refine wpAny_done (by kernel_rfl) ?_ _
  go_wp2_with fail
  refine wp_world' (fun wx => Blk wx b #[.int .i64 (lv + d), .int .i64 bg, .int .i64 lv, .int .i64 ax, .int .i64 ay] 100 ∧ Blk wx w.heap.size g.row 106 ∧ Mod (· = b) w wx)
    ⟨hBx.out.set 0 _, hPx.out.other (show w.heap.size ≠ b by omega) _, hMx.out.setCell (p := ⟨b, 0, none⟩) (fun _ => rfl) _⟩ ?_
  clear hBx hPx hMx c0 f0 x w2
  rintro w3 ⟨hB3, hP3, hM3⟩
  have b0 : ∀ x : Later (fun _ => False) w3, x.val.cell? ⟨b, 0, none⟩ = some (.int .i64 (lv + d)) := fun x => x.cell (hB3.cell (i := 0) rfl) (fun h => h)
  have k2 : ∀ x : Later (fun _ => False) w3, x.val.cell? ⟨w.heap.size, 2, none⟩ = some (.int .i64 g.e) := fun x => x.cell (hP3.cell (i := 2) rfl) (fun h => h)
  have k3 : ∀ x : Later (fun _ => False) w3, x.val.cell? ⟨w.heap.size, 3, none⟩ = some (.int .i64 g.l) := fun x => x.cell (hP3.cell (i := 3) rfl) (fun h => h)
  replace hB3 := Lib.hid hB3
  replace hP3 := Lib.hid hP3
  replace hM3 := Lib.hid hM3
  refine wp_region_later (Mod.refl (fun _ => False) w3) (by kernel_rfl) (by kernel_rfl) ?_
  repeat (go_big_quiet_step (((go_at_call 72; with_reducible exact Calls.later (hwc.out _)))))
  refine wpQuiet_nil ?_
  rintro _ ⟨x, rfl⟩
  have hB4 := hB3.out.mod x.mod (fun h => h)
  have hP4 := hP3.out.mod x.mod (fun h => h)
  have hM4 : Mod (· = b) w x.val := hM3.out.trans (x.mod.mono (fun _ _ h => h.elim))
  clear b0 k2 k3 hB3 hP3 hM3
  generalize x.val = w4 at *
  have q0 : w4.cell? ⟨w.heap.size, 0, none⟩ = some (.int .i64 g.x) := hP4.cell (i := 0) rfl
  have q1 : w4.cell? ⟨w.heap.size, 1, none⟩ = some (.int .i64 g.y) := hP4.cell (i := 1) rfl
  have q4 : w4.cell? ⟨w.heap.size, 4, none⟩ = some (.int .i64 g.s) := hP4.cell (i := 4) rfl
  have c1 := hB4.cell (i := 1) rfl
  have c2 := hB4.cell (i := 2) rfl
  have c3 := hB4.cell (i := 3) rfl
  have c4 := hB4.cell (i := 4) rfl
  have f1 := hB4.froz 1
  have f2 := hB4.froz 2
  have f3 := hB4.froz 3
  have f4 := hB4.froz 4
  replace hB4 := Lib.hid hB4
  replace hM4 := Lib.hid hM4
  clear hP4 hwc
  have hne : ¬ w.heap.size = b := by omega
  have hne' : ¬ b = w.heap.size := by omega
  go_wp2_with fail
  go_region
  go_wp2
  go_ret
  exact ⟨rfl, (((hM4.out.setCell (p := ⟨b, 1, none⟩) (fun _ => rfl) _).setCell (p := ⟨b, 2, none⟩) (fun _ => rfl) _).setCell (p := ⟨b, 3, none⟩) (fun _ => rfl) _).setCell (p := ⟨b, 4, none⟩) (fun _ => rfl) _ |>.drew, (((hB4.out.set 1 _).set 2 _).set 3 _).set 4 _⟩
end Go.Proofs.Ytcdpiemkbefcoaa
