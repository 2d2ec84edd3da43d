/-
  The document's layers 2 to 4: May, window, Check.
-/
import Derived.Test.YtcdpiemkbefcoaaOrd
import Derived.Test.YtcdpiemkbefcoaaRw
namespace Go.Proofs.Ytcdpiemkbefcoaa
open Go.RowKit

set_option maxRecDepth 100000 in
theorem mayp_ref (x y : Int) (w : World) : Calls Try.prog 94 #[.agg #[.int .i64 x, .int .i64 y]] w fun e w' => e = .returned (.bool (plB x y)) ∧ Below w.heap.size w w' := by
  obtain ⟨X, HX⟩ : ∃ X, plB x y = X := ⟨_, rfl⟩
  rw [HX]
  unfold plB at HX
  by_cases h0 : 0 ≤ x
  · by_cases h1 : x < 1024
    · by_cases h2 : 0 ≤ y
      · by_cases h3 : y < 1024
        · obtain rfl : X = true := by rw [← HX]; simp; omega
          go_enter Try.func94, Try.ntmps94
          go_wp2
          go_ret
          exact ⟨rfl, new_below _ _⟩
        · obtain rfl : X = false := by rw [← HX]; simp; omega
          go_enter Try.func94, Try.ntmps94
          go_wp2
          go_ret
          exact ⟨rfl, new_below _ _⟩
      · obtain rfl : X = false := by rw [← HX]; simp; omega
        go_enter Try.func94, Try.ntmps94
        go_wp2
        go_ret
        exact ⟨rfl, new_below _ _⟩
    · obtain rfl : X = false := by rw [← HX]; simp; omega
      go_enter Try.func94, Try.ntmps94
      go_wp2
      go_ret
      exact ⟨rfl, new_below _ _⟩
  · obtain rfl : X = false := by rw [← HX]; simp; omega
    go_enter Try.func94, Try.ntmps94
    go_wp2
    go_ret
    exact ⟨rfl, new_below _ _⟩
set_option maxRecDepth 100000 in
theorem win_ref (x y : Int) (w : World) : Calls Try.prog 103 #[.agg #[.int .i64 x, .int .i64 y]] w fun e w' => e = .returned (.bool (wiB x y)) ∧ Below w.heap.size w w' := by
  obtain ⟨X, HX⟩ : ∃ X, wiB x y = X := ⟨_, rfl⟩
  rw [HX]
  unfold wiB at HX
  by_cases h0 : 0 ≤ x
  · by_cases h1 : x ≤ y
    · by_cases h3 : y ≤ 1048576
      · obtain rfl : X = true := by rw [← HX]; simp; omega
        go_enter Try.func103, Try.ntmps103
        go_wp2
        go_ret
        exact ⟨rfl, new_below _ _⟩
      · obtain rfl : X = false := by rw [← HX]; simp; omega
        go_enter Try.func103, Try.ntmps103
        go_wp2
        go_ret
        exact ⟨rfl, new_below _ _⟩
    · obtain rfl : X = false := by rw [← HX]; simp; omega
      go_enter Try.func103, Try.ntmps103
      go_wp2
      go_ret
      exact ⟨rfl, new_below _ _⟩
  · obtain rfl : X = false := by rw [← HX]; simp; omega
    go_enter Try.func103, Try.ntmps103
    go_wp2
    go_ret
    exact ⟨rfl, new_below _ _⟩
set_option maxHeartbeats 2000000 in
set_option maxRecDepth 100000 in
theorem chk_ref (x0 x1 x2 x3 x4 x5 x6 x7 x8 x9 : Int) (w : World) :
    Calls Try.prog 97 #[.agg #[.int .i64 x0, .int .i64 x1, .int .i64 x2, .int .i64 x3, .int .i64 x4, .int .i64 x5, .int .i64 x6, .int .i64 x7, .int .i64 x8, .int .i64 x9]] w fun e w' => e = .returned (.int .i64 (rqCode x0 x1 x2 x3 x4 x5 x6 x7 x8 x9)) ∧ Below w.heap.size w w' := by
  have hp := Lib.hid (fun w => mayp_ref x0 x1 w)
  have hq := Lib.hid (fun w => mayp_ref x2 x3 w)
  have hu := Lib.hid (fun w => win_ref x4 x5 w)
  have hv := Lib.hid (fun w => win_ref x6 x7 w)
  obtain ⟨X, HX⟩ : ∃ X, rqCode x0 x1 x2 x3 x4 x5 x6 x7 x8 x9 = X := ⟨_, rfl⟩
  rw [HX]
  unfold rqCode firstC at HX
  generalize plB x0 x1 = b1 at hp HX
  generalize plB x2 x3 = b2 at hq HX
  generalize wiB x4 x5 = b3 at hu HX
  generalize wiB x6 x7 = b4 at hv HX
  have HX' := Lib.hid HX
  clear HX
  obtain ⟨R, hR⟩ : ∃ R : Array Value, #[.int .i64 x0, .int .i64 x1, .int .i64 x2, .int .i64 x3, .int .i64 x4, .int .i64 x5, .int .i64 x6, .int .i64 x7, .int .i64 x8, .int .i64 x9] = R := ⟨_, rfl⟩
  have hB := Blk.new w R 47
  have h0 := Lib.hid (fun wx (h : Blk wx w.heap.size R 47) => (show (loadVar 26 ⟨w.heap.size, 0, none⟩).run Try.prog wx = .ok (.agg #[.int .i64 x0, .int .i64 x1]) wx from by
    have := load_part (P := Try.prog) wx w.heap.size R 47 h 0 2 (by rw [← hR]; simp) 26 _ Try.underlying26 rfl (by kernel_rfl)
    rw [this, ← hR]; rfl))
  have h2 := Lib.hid (fun wx (h : Blk wx w.heap.size R 47) => (show (loadVar 26 ⟨w.heap.size, 2, none⟩).run Try.prog wx = .ok (.agg #[.int .i64 x2, .int .i64 x3]) wx from by
    have := load_part (P := Try.prog) wx w.heap.size R 47 h 2 2 (by rw [← hR]; simp) 26 _ Try.underlying26 rfl (by kernel_rfl)
    rw [this, ← hR]; rfl))
  have h4 := Lib.hid (fun wx (h : Blk wx w.heap.size R 47) => (show (loadVar 45 ⟨w.heap.size, 4, none⟩).run Try.prog wx = .ok (.agg #[.int .i64 x4, .int .i64 x5]) wx from by
    have := load_part (P := Try.prog) wx w.heap.size R 47 h 4 2 (by rw [← hR]; simp) 45 _ Try.underlying45 rfl (by kernel_rfl)
    rw [this, ← hR]; rfl))
  have h6 := Lib.hid (fun wx (h : Blk wx w.heap.size R 47) => (show (loadVar 45 ⟨w.heap.size, 6, none⟩).run Try.prog wx = .ok (.agg #[.int .i64 x6, .int .i64 x7]) wx from by
    have := load_part (P := Try.prog) wx w.heap.size R 47 h 6 2 (by rw [← hR]; simp) 45 _ Try.underlying45 rfl (by kernel_rfl)
    rw [this, ← hR]; rfl))
  have h8 := Lib.hid (fun wx (h : Blk wx w.heap.size R 47) => (⟨h.cell (i := 8) (by rw [← hR]; rfl), h.cell (i := 9) (by rw [← hR]; rfl)⟩ : wx.cell? ⟨w.heap.size, 8, none⟩ = some (.int .i64 x8) ∧ wx.cell? ⟨w.heap.size, 9, none⟩ = some (.int .i64 x9)))
  rw [hR]
  replace hR := Lib.hid hR
  replace hB := Lib.hid hB
  go_enter Try.func97, Try.ntmps97
  go_upto_region 1 with fail
  refine wp_world (fun wx => Blk wx w.heap.size R 47 ∧ Below w.heap.size w wx) ⟨hB.out, new_below _ _⟩ ?_
  rintro w1 ⟨B1, l1⟩
  replace B1 := Lib.hid B1
  clear hB
  go_wp2_with (refine wpList_load_v rfl 26 _ rfl ⟨w.heap.size, 0, none⟩ rfl _ (h0.out _ B1.out) ?_)
  refine (hp.out _).mono ?_
  rintro e w2 ⟨rfl, c2⟩
  have B2 := Lib.hid (B1.out.mod ((Mod.refl (fun _ => False) _).after c2) (fun h => h))
  have l2 := l1.trans (c2.mono l1.size)
  clear B1 l1
  cases b1
  · obtain rfl : X = 4 := by rw [← HX'.out]; rfl
    go_wp2_with fail
    go_ret
    exact ⟨rfl, l2⟩
  go_wp2_with (refine wpList_load_v rfl 26 _ rfl ⟨w.heap.size, 2, none⟩ rfl _ (h2.out _ B2.out) ?_)
  refine (hq.out _).mono ?_
  rintro e w3 ⟨rfl, c3⟩
  have B3 := Lib.hid (B2.out.mod ((Mod.refl (fun _ => False) _).after c3) (fun h => h))
  have l3 := l2.trans (c3.mono l2.size)
  clear B2 l2
  cases b2
  · obtain rfl : X = 4 := by rw [← HX'.out]; rfl
    go_wp2_with fail
    go_ret
    exact ⟨rfl, l3⟩
  go_wp2_with (refine wpList_load_v rfl 45 _ rfl ⟨w.heap.size, 4, none⟩ rfl _ (h4.out _ B3.out) ?_)
  refine (hu.out _).mono ?_
  rintro e w4 ⟨rfl, c4⟩
  have B4 := Lib.hid (B3.out.mod ((Mod.refl (fun _ => False) _).after c4) (fun h => h))
  have l4 := l3.trans (c4.mono l3.size)
  clear B3 l3
  cases b3
  · obtain rfl : X = 5 := by rw [← HX'.out]; rfl
    go_wp2_with fail
    go_ret
    exact ⟨rfl, l4⟩
  go_wp2_with (refine wpList_load_v rfl 45 _ rfl ⟨w.heap.size, 6, none⟩ rfl _ (h6.out _ B4.out) ?_)
  refine (hv.out _).mono ?_
  rintro e w5 ⟨rfl, c5⟩
  have B5 := B4.out.mod ((Mod.refl (fun _ => False) _).after c5) (fun h => h)
  have l5 := l4.trans (c5.mono l4.size)
  clear B4 l4
  cases b4
  · obtain rfl : X = 5 := by rw [← HX'.out]; rfl
    go_wp2_with fail
    go_ret
    exact ⟨rfl, l5⟩
  obtain ⟨c8, c9⟩ := h8.out _ B5
  by_cases q1 : 1 ≤ x8
  · by_cases q2 : x8 ≤ 1000
    · by_cases q3 : 0 ≤ x9
      · by_cases q4 : x9 ≤ 1000
        · obtain rfl : X = 0 := by rw [← HX'.out]; simp [q1, q2, q3, q4]
          go_wp2_with fail
          go_ret
          exact ⟨rfl, l5⟩
        · obtain rfl : X = 6 := by rw [← HX'.out]; simp [q1, q2, q3, q4]
          go_wp2_with fail
          go_ret
          exact ⟨rfl, l5⟩
      · obtain rfl : X = 6 := by rw [← HX'.out]; simp [q1, q2, q3]
        go_wp2_with fail
        go_ret
        exact ⟨rfl, l5⟩
    · obtain rfl : X = 6 := by rw [← HX'.out]; simp [q1, q2]
      go_wp2_with fail
      go_ret
      exact ⟨rfl, l5⟩
  · obtain rfl : X = 6 := by rw [← HX'.out]; simp [q1]
    go_wp2_with fail
    go_ret
    exact ⟨rfl, l5⟩
end Go.Proofs.Ytcdpiemkbefcoaa
