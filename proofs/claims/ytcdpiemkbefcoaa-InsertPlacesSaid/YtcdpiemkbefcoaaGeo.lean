/-
  Layers 2 to 4: how far it is; when one begins; the document's Vehicle.
-/
import Derived.Test.YtcdpiemkbefcoaaVeh
namespace Go.Proofs.Ytcdpiemkbefcoaa
open Go.RowKit

/-- by how much two numbers differ -/
def ap1 (a b : Int) : Int := if a < b then b - a else a - b
theorem ap1_bd {a b : Int} (ha : 0 ≤ a ∧ a < 1024) (hb : 0 ≤ b ∧ b < 1024) : 0 ≤ ap1 a b ∧ ap1 a b < 1024 := by unfold ap1; split <;> omega
theorem apart_calls (a b : Int) (w : World) (ha : 0 ≤ a ∧ a < 1024) (hb : 0 ≤ b ∧ b < 1024) :
    Calls Try.prog 70 #[.int .i64 a, .int .i64 b] w fun e w' => e = .returned (.int .i64 (ap1 a b)) ∧ w' = w := by
  unfold ap1
  by_cases h : a < b
  · rw [if_pos h]
    have s1 : IntKind.i64.wrap (b - a) = b - a := IntWalk.i64_in _ (by omega)
    go_enter Try.func70, Try.ntmps70
    go_wp2
    go_ret
    exact ⟨rfl, rfl⟩
  · rw [if_neg h]
    by_cases e : b < a
    · have s1 : IntKind.i64.wrap (a - b) = a - b := IntWalk.i64_in _ (by omega)
      go_enter Try.func70, Try.ntmps70
      go_wp2
      go_ret
      exact ⟨rfl, rfl⟩
    · obtain rfl : a = b := by omega
      have s1 : IntKind.i64.wrap (a - a) = a - a := IntWalk.i64_in _ (by omega)
      go_enter Try.func70, Try.ntmps70
      go_wp2
      go_ret
      exact ⟨rfl, rfl⟩
/-- how far it is -/
def dsP (x y u v : Int) : Int := if plB x y && plB u v then ap1 x u + ap1 y v else 0
theorem plB_rg {x y : Int} (h : plB x y = true) : (0 ≤ x ∧ x < 1024) ∧ (0 ≤ y ∧ y < 1024) := by
  have := of_decide_eq_true h
  omega
theorem dsP_bd (x y u v : Int) : 0 ≤ dsP x y u v ∧ dsP x y u v < 2048 := by
  unfold dsP
  split
  · rename_i h
    rw [Bool.and_eq_true] at h
    have h1 := plB_rg h.1
    have h2 := plB_rg h.2
    have h3 := ap1_bd h1.1 h2.1
    have h4 := ap1_bd h1.2 h2.2
    omega
  · omega
set_option maxRecDepth 100000 in
theorem dist_calls (x y u v : Int) (w : World) :
    Calls Try.prog 44 #[.agg #[.int .i64 x, .int .i64 y], .agg #[.int .i64 u, .int .i64 v]] w fun e w' => e = .returned (.int .i64 (dsP x y u v)) ∧ Below w.heap.size w w' := by
  have p0 := Lib.hid (fun w => place_calls x y w)
  have p1 := Lib.hid (fun w => place_calls u v w)
  have hX : dsP x y u v = if plB x y && plB u v then ap1 x u + ap1 y v else 0 := rfl
  have hr : Hid (plB x y = true → plB u v = true → (0 ≤ ap1 x u ∧ ap1 x u < 1024) ∧ (0 ≤ ap1 y v ∧ ap1 y v < 1024)) := Lib.hid (fun h1 h2 => ⟨ap1_bd (plB_rg h1).1 (plB_rg h2).1, ap1_bd (plB_rg h1).2 (plB_rg h2).2⟩)
  have ha := Lib.hid (fun (h1 : plB x y = true) (h2 : plB u v = true) (w : World) => apart_calls x u w (plB_rg h1).1 (plB_rg h2).1)
  have hb := Lib.hid (fun (h1 : plB x y = true) (h2 : plB u v = true) (w : World) => apart_calls y v w (plB_rg h1).2 (plB_rg h2).2)
  generalize dsP x y u v = X at hX ⊢
  generalize plB x y = b1 at p0 hX hr ha hb
  generalize plB u v = b2 at p1 hX hr ha hb
  have B0 := (Blk.new w #[.int .i64 x, .int .i64 y] 26).alloc (.cells #[.int .i64 u, .int .i64 v] 26)
  have B1 := Blk.new' w (.cells #[.int .i64 x, .int .i64 y] 26) #[.int .i64 u, .int .i64 v] 26
  have hl := ((Below.refl w.heap.size w).alloc (Nat.le_refl _) (.cells #[.int .i64 x, .int .i64 y] 26)).alloc (by simp) (.cells #[.int .i64 u, .int .i64 v] 26)
  go_enter Try.func44, Try.ntmps44
  go_upto_region 1 with fail
  refine wp_world (fun wx => Blk wx w.heap.size #[.int .i64 x, .int .i64 y] 26 ∧ Blk wx (w.heap.size + 1) #[.int .i64 u, .int .i64 v] 26 ∧ Below w.heap.size w wx) ⟨B0, B1, hl⟩ ?_
  rintro w0 ⟨C0, C1, l0⟩
  have k0 := C0.cell (i := 0) rfl
  have k1 := C0.cell (i := 1) rfl
  go_wp2_with fail
  refine (p0.out _).mono ?_
  rintro e w1 ⟨rfl, hb1⟩
  have C0' := C0.mod ((Mod.refl (fun _ => False) _).after hb1) (fun h => h)
  have C1' := C1.mod ((Mod.refl (fun _ => False) _).after hb1) (fun h => h)
  have l1 := l0.trans (hb1.mono l0.size)
  clear k0 k1 C0 C1 l0 hb1 B0 B1 hl
  have k0 := C1'.cell (i := 0) rfl
  have k1 := C1'.cell (i := 1) rfl
  cases b1 with
  | false =>
    obtain rfl : X = 0 := hX
    go_wp2_with fail
    go_ret
    exact ⟨rfl, l1⟩
  | true =>
    go_wp2_with fail
    refine (p1.out _).mono ?_
    rintro e w2 ⟨rfl, hb2⟩
    have C0 := C0'.mod ((Mod.refl (fun _ => False) _).after hb2) (fun h => h)
    have C1 := C1'.mod ((Mod.refl (fun _ => False) _).after hb2) (fun h => h)
    have l2 := l1.trans (hb2.mono l1.size)
    clear k0 k1 C0' C1' l1 hb2
    cases b2 with
    | false =>
      obtain rfl : X = 0 := hX
      go_wp2_with fail
      go_ret
      exact ⟨rfl, l2⟩
    | true =>
      obtain rfl : X = ap1 x u + ap1 y v := hX
      obtain ⟨h1, h2⟩ := hr.out (by simp) (by simp)
      have s1 : IntKind.i64.wrap (ap1 x u + ap1 y v) = ap1 x u + ap1 y v := IntWalk.i64_in _ (by omega)
      have k0 := C0.cell (i := 0) rfl
      have k1 := C0.cell (i := 1) rfl
      have k2 := C1.cell (i := 0) rfl
      have k3 := C1.cell (i := 1) rfl
      go_upto_region 3 with fail
      go_quiet ((first | (go_at_call 70; with_reducible exact Calls.quiet_of_same (ha.out (by simp) (by simp) _)) | (go_at_call 70; with_reducible exact Calls.quiet_of_same (hb.out (by simp) (by simp) _))))
      go_wp2_with fail
      go_ret
      exact ⟨rfl, below_drewN l2 _⟩
end Go.Proofs.Ytcdpiemkbefcoaa
