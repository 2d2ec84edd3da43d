/-
  Layers 2 to 4: place.May, window.May, order.Check.
  The document's layers 2 to 4: May, window, Check.
-/
import Derived.Test.YtpbmeeogledmdaeBlk
import Derived.Test.YtpbmeeogledmdaeTell
import Derived.Deep.RegionWith
import Derived.Test.YtpbmeeogledmdaeEls
namespace Go.Proofs.Ytpbmeeogledmdae
open Go.RowKit

/-- a place on the grid -/
def plB (x y : Int) : Bool := decide (0 ≤ x ∧ x < 1024 ∧ 0 ≤ y ∧ y < 1024)
/-- a window that may be -/
def wiB (e l : Int) : Bool := decide (0 ≤ e ∧ e ≤ l ∧ l ≤ 1048576)

theorem on_calls (n : Int) (w : World) :
    Calls Try.prog 66 #[.int .i64 n] w fun e w' => e = .returned (.bool (decide (0 ≤ n ∧ n < 1024))) ∧ w = w' := by
  by_cases h0 : 0 ≤ n
  · by_cases h1 : n < 1024
    · rw [decide_eq_true (⟨h0, h1⟩ : 0 ≤ n ∧ n < 1024)]
      go_enter Try.func66, Try.ntmps66
      go_wp2
      go_ret
      exact ⟨rfl, rfl⟩
    · rw [decide_eq_false (show ¬ (0 ≤ n ∧ n < 1024) by omega)]
      go_enter Try.func66, Try.ntmps66
      go_wp2
      go_ret
      exact ⟨rfl, rfl⟩
  · rw [decide_eq_false (show ¬ (0 ≤ n ∧ n < 1024) by omega)]
    go_enter Try.func66, Try.ntmps66
    go_wp2
    go_ret
    exact ⟨rfl, rfl⟩

theorem plB_eq (x y : Int) : plB x y = (decide (0 ≤ x ∧ x < 1024) && decide (0 ≤ y ∧ y < 1024)) := by
  unfold plB
  rw [Bool.eq_iff_iff]
  simp
  omega
theorem place_calls (x y : Int) (w : World) :
    Calls Try.prog 50 #[.agg #[.int .i64 x, .int .i64 y]] w fun e w' => e = .returned (.bool (plB x y)) ∧ Below w.heap.size w w' := by
  have hb := (Below.refl w.heap.size w).alloc (Nat.le_refl _) (.cells #[.int .i64 x, .int .i64 y] 45)
  rw [plB_eq]
  have cx := fun w => Lib.hid (on_calls x w)
  have cy := fun w => Lib.hid (on_calls y w)
  generalize decide (0 ≤ x ∧ x < 1024) = p at cx ⊢
  generalize decide (0 ≤ y ∧ y < 1024) = q at cy ⊢
  go_enter Try.func50, Try.ntmps50
  go_wp2_with fail
  refine (cx _).out.mono ?_
  rintro e w' ⟨rfl, rfl⟩
  cases p
  · go_wp2
    go_ret
    exact ⟨rfl, hb⟩
  · go_wp2_with fail
    refine (cy _).out.mono ?_
    rintro e w' ⟨rfl, rfl⟩
    go_wp2
    go_ret
    exact ⟨rfl, hb⟩
theorem span_calls (x y : Int) (w : World) :
    Calls Try.prog 67 #[.agg #[.int .i64 x, .int .i64 y]] w fun e w' => e = .returned (.bool (wiB x y)) ∧ Below w.heap.size w w' := by
  have hb := (Below.refl w.heap.size w).alloc (Nat.le_refl _) (.cells #[.int .i64 x, .int .i64 y] 159)
  by_cases h : 0 ≤ x ∧ x ≤ y ∧ y ≤ 1048576
  · obtain ⟨h0, h1, h2⟩ := h
    have e : wiB x y = true := decide_eq_true ⟨h0, h1, h2⟩
    rw [e]
    clear e
    go_enter Try.func67, Try.ntmps67
    go_wp2
    go_ret
    exact ⟨rfl, hb⟩
  · have e : wiB x y = false := decide_eq_false h
    rw [e]
    clear e
    by_cases h0 : 0 ≤ x
    · by_cases h1 : x ≤ y
      · have h2 : ¬ y ≤ 1048576 := by omega
        clear h
        go_enter Try.func67, Try.ntmps67
        go_wp2
        go_ret
        exact ⟨rfl, hb⟩
      · clear h
        go_enter Try.func67, Try.ntmps67
        go_wp2
        go_ret
        exact ⟨rfl, hb⟩
    · clear h
      go_enter Try.func67, Try.ntmps67
      go_wp2
      go_ret
      exact ⟨rfl, hb⟩
set_option maxRecDepth 100000 in
theorem window_calls (x y : Int) (w : World) :
    Calls Try.prog 55 #[.agg #[.int .i64 x, .int .i64 y]] w fun e w' => e = .returned (.bool (wiB x y)) ∧ Below w.heap.size w w' := by
  have hb := (Below.refl w.heap.size w).alloc (Nat.le_refl _) (.cells #[.int .i64 x, .int .i64 y] 59)
  have hf : ∀ w, (Instr.field 161 (.agg #[.int .i64 x, .int .i64 y, .int .i64 0]) 0).run Try.prog w = .ok (.agg #[.int .i64 x, .int .i64 y]) w := fun w => by kernel_rfl
  go_enter Try.func55, Try.ntmps55
  go_wp2_with fail
  refine (span_calls x y _).mono ?_
  rintro e w1 ⟨rfl, hb1⟩
  go_wp2
  go_ret
  exact ⟨rfl, bt hb hb1⟩
theorem order_within (n a b : Int) (w : World) :
    Calls Try.prog 54 #[.int .i64 n, .int .i64 a, .int .i64 b] w fun e w' => e = .returned (.bool (decide (a ≤ n ∧ n ≤ b))) ∧ w = w' := by
  by_cases h0 : a ≤ n
  · by_cases h1 : n ≤ b
    · rw [decide_eq_true (⟨h0, h1⟩ : a ≤ n ∧ n ≤ b)]
      go_enter Try.func54, Try.ntmps54
      go_wp2
      go_ret
      exact ⟨rfl, rfl⟩
    · rw [decide_eq_false (show ¬ (a ≤ n ∧ n ≤ b) by omega)]
      go_enter Try.func54, Try.ntmps54
      go_wp2
      go_ret
      exact ⟨rfl, rfl⟩
  · rw [decide_eq_false (show ¬ (a ≤ n ∧ n ≤ b) by omega)]
    go_enter Try.func54, Try.ntmps54
    go_wp2
    go_ret
    exact ⟨rfl, rfl⟩

/-- the first code whose need does not hold -/
def firstC (b1 b2 b3 : Bool) : Int := if !b1 then 4 else if !b2 then 5 else if !b3 then 6 else 0
theorem first_calls (B : Nat) (b1 b2 b3 : Bool) (w : World) (hB : Blk w B #[.bool b1, .int .i64 4, .bool b2, .int .i64 5, .bool b3, .int .i64 6] 134) :
    Calls Try.prog 53 #[.slice (some ⟨B, 0, none⟩) 3 3] w fun e w' => e = .returned (.int .i64 (firstC b1 b2 b3)) ∧ Below w.heap.size w w' := by
  have hbl := hB.lt
  have g1 : ∀ o1 : Obj, Below w.heap.size w (w.alloc o1) := fun o1 => (Below.refl _ _).alloc (Nat.le_refl _) o1
  have g2 : ∀ o1 o2 : Obj, Below w.heap.size w ((w.alloc o1).alloc o2) := fun o1 o2 => (g1 o1).alloc (by simp) o2
  have g3 : ∀ o1 o2 o3 : Obj, Below w.heap.size w (((w.alloc o1).alloc o2).alloc o3) := fun o1 o2 o3 => (g2 o1 o2).alloc (g2 o1 o2).size o3
  have c0 := hB.cell (i := 0) rfl
  have c1 := hB.cell (i := 1) rfl
  have c2 := hB.cell (i := 2) rfl
  have c3 := hB.cell (i := 3) rfl
  have c4 := hB.cell (i := 4) rfl
  have c5 := hB.cell (i := 5) rfl
  cases b1
  · go_enter Try.func53, Try.ntmps53
    go_wp2_with fail
    refine wp_loop_rounds 1 ?_
    rw [rounds_succ]; go_wp2_with fail
    go_ret
    exact ⟨rfl, g1 _⟩
  · cases b2
    · go_enter Try.func53, Try.ntmps53
      go_wp2_with fail
      refine wp_loop_rounds 2 ?_
      rw [rounds_succ]; go_wp2_with fail
      rw [rounds_succ]; go_wp2_with fail
      go_ret
      exact ⟨rfl, g2 _ _⟩
    · cases b3
      · go_enter Try.func53, Try.ntmps53
        go_wp2_with fail
        refine wp_loop_rounds 3 ?_
        rw [rounds_succ]; go_wp2_with fail
        rw [rounds_succ]; go_wp2_with fail
        rw [rounds_succ]; go_wp2_with fail
        go_ret
        exact ⟨rfl, g3 _ _ _⟩
      · go_enter Try.func53, Try.ntmps53
        go_wp2_with fail
        refine wp_loop_rounds 4 ?_
        rw [rounds_succ]; go_wp2_with fail
        rw [rounds_succ]; go_wp2_with fail
        rw [rounds_succ]; go_wp2_with fail
        rw [rounds_succ]; go_wp2_with fail
        go_ret
        exact ⟨rfl, g3 _ _ _⟩

/-- a request's numbers may be: the first error -/
def rqCode (x0 x1 x2 x3 x4 x5 x6 x7 x8 x9 : Int) : Int := firstC (plB x0 x1 && plB x2 x3) (wiB x4 x5 && wiB x6 x7) (decide (1 ≤ x8 ∧ x8 ≤ 1000) && decide (0 ≤ x9 ∧ x9 ≤ 1000))

end Go.Proofs.Ytpbmeeogledmdae
namespace Go.Proofs.Ytpbmeeogledmdae
open Go.RowKit

theorem within_below (n a b : Int) (w : World) : Calls Try.prog 54 #[.int .i64 n, .int .i64 a, .int .i64 b] w fun e w' => e = .returned (.bool (decide (a ≤ n ∧ n ≤ b))) ∧ Below w.heap.size w w' :=
  (order_within n a b w).mono fun _ _ h => ⟨h.1, h.2 ▸ Below.refl _ _⟩

set_option maxHeartbeats 2000000 in
set_option maxRecDepth 100000 in
theorem check_fff (x0 x1 x2 x3 x4 x5 x6 x7 x8 x9 : Int) (b1 b3 b5 : Bool) (w : World)
    (p0 : ∀ w, Hid (Calls Try.prog 50 #[.agg #[.int .i64 x0, .int .i64 x1]] w fun e w' => e = .returned (.bool false) ∧ Below w.heap.size w w'))
    (p2 : ∀ w, Hid (Calls Try.prog 55 #[.agg #[.int .i64 x4, .int .i64 x5]] w fun e w' => e = .returned (.bool false) ∧ Below w.heap.size w w'))
    (p4 : ∀ w, Hid (Calls Try.prog 54 #[.int .i64 x8, .int .i64 1, .int .i64 1000] w fun e w' => e = .returned (.bool false) ∧ Below w.heap.size w w')) :
    Calls Try.prog 32 #[.agg #[.int .i64 x0, .int .i64 x1, .int .i64 x2, .int .i64 x3, .int .i64 x4, .int .i64 x5, .int .i64 x6, .int .i64 x7, .int .i64 x8, .int .i64 x9]] w fun e w' => e = .returned (.int .i64 (firstC (false && b1) (false && b3) (false && b5))) ∧ Below w.heap.size w w' := by
  have hB := Blk.new w #[.int .i64 x0, .int .i64 x1, .int .i64 x2, .int .i64 x3, .int .i64 x4, .int .i64 x5, .int .i64 x6, .int .i64 x7, .int .i64 x8, .int .i64 x9] 61
  have hM : Mod (fun _ => False) w (w.alloc (.cells #[.int .i64 x0, .int .i64 x1, .int .i64 x2, .int .i64 x3, .int .i64 x4, .int .i64 x5, .int .i64 x6, .int .i64 x7, .int .i64 x8, .int .i64 x9] 61)) := (Mod.refl _ _).alloc _
  have k0 : ∀ x : Later (fun _ => False) (w.alloc (.cells #[.int .i64 x0, .int .i64 x1, .int .i64 x2, .int .i64 x3, .int .i64 x4, .int .i64 x5, .int .i64 x6, .int .i64 x7, .int .i64 x8, .int .i64 x9] 61)), x.val.cell? ⟨w.heap.size, 0, none⟩ = some (.int .i64 x0) := fun x => x.cell (hB.cell (i := 0) rfl) (by simp)
  have k1 : ∀ x : Later (fun _ => False) (w.alloc (.cells #[.int .i64 x0, .int .i64 x1, .int .i64 x2, .int .i64 x3, .int .i64 x4, .int .i64 x5, .int .i64 x6, .int .i64 x7, .int .i64 x8, .int .i64 x9] 61)), x.val.cell? ⟨w.heap.size, 1, none⟩ = some (.int .i64 x1) := fun x => x.cell (hB.cell (i := 1) rfl) (by simp)
  have k4 : ∀ x : Later (fun _ => False) (w.alloc (.cells #[.int .i64 x0, .int .i64 x1, .int .i64 x2, .int .i64 x3, .int .i64 x4, .int .i64 x5, .int .i64 x6, .int .i64 x7, .int .i64 x8, .int .i64 x9] 61)), x.val.cell? ⟨w.heap.size, 4, none⟩ = some (.int .i64 x4) := fun x => x.cell (hB.cell (i := 4) rfl) (by simp)
  have k5 : ∀ x : Later (fun _ => False) (w.alloc (.cells #[.int .i64 x0, .int .i64 x1, .int .i64 x2, .int .i64 x3, .int .i64 x4, .int .i64 x5, .int .i64 x6, .int .i64 x7, .int .i64 x8, .int .i64 x9] 61)), x.val.cell? ⟨w.heap.size, 5, none⟩ = some (.int .i64 x5) := fun x => x.cell (hB.cell (i := 5) rfl) (by simp)
  have k8 : ∀ x : Later (fun _ => False) (w.alloc (.cells #[.int .i64 x0, .int .i64 x1, .int .i64 x2, .int .i64 x3, .int .i64 x4, .int .i64 x5, .int .i64 x6, .int .i64 x7, .int .i64 x8, .int .i64 x9] 61)), x.val.cell? ⟨w.heap.size, 8, none⟩ = some (.int .i64 x8) := fun x => x.cell (hB.cell (i := 8) rfl) (by simp)
  replace hB := Lib.hid hB
  go_enter Try.func32, Try.ntmps32
  go_wp2_with fail
  refine wp_region_then (C := fun w' => ∃ x : Later (fun _ => False) (w.alloc (.cells #[.int .i64 x0, .int .i64 x1, .int .i64 x2, .int .i64 x3, .int .i64 x4, .int .i64 x5, .int .i64 x6, .int .i64 x7, .int .i64 x8, .int .i64 x9] 61)), w' = x.val) 27 (by kernel_rfl) (by kernel_rfl) ⟨⟨_, (Mod.refl _ _).drew⟩, rfl⟩ ?_
  simp only [List.take_succ_cons, List.take_zero]
  repeat (go_big_quiet_step ((first | (go_at_call 50; with_reducible exact Calls.later (p0 _).out) | (go_at_call 55; with_reducible exact Calls.later (p2 _).out) | (go_at_call 54; with_reducible exact Calls.later (p4 _).out))))
  refine wpQuiet_nil ?_
  rintro _ ⟨x, rfl⟩
  refine wpAny_ready (rs := [27]) (by kernel_rfl) (by simp) ?_
  refine AllReady.cons rfl (fun K hK => ?_) AllReady.nil
  go_simp
  refine hK _ _ ?_
  clear hK K
  refine wpAny_ready (rs := [28]) (by kernel_rfl) (by simp) ?_
  refine AllReady.cons rfl (fun K hK => ?_) AllReady.nil
  go_simp
  refine (first_calls _ _ _ _ _ (Blk.new _ _ _)).mono ?_
  rintro e w2 ⟨rfl, hb2⟩
  refine hK _ _ ?_
  clear hK K
  refine wpAny_ready (rs := [29]) (by kernel_rfl) (by simp) ?_
  refine AllReady.cons rfl (fun K hK => ?_) AllReady.nil
  go_simp
  refine hK _ _ ?_
  clear hK K
  refine wpAny_done (by kernel_rfl) ?_ _
  go_wp2
  go_ret
  exact ⟨rfl, (((hM.trans x.mod).alloc _).after hb2).below (Nat.le_refl _) (fun _ h => h.elim)⟩

set_option maxHeartbeats 2000000 in
set_option maxRecDepth 100000 in
theorem check_fft (x0 x1 x2 x3 x4 x5 x6 x7 x8 x9 : Int) (b1 b3 b5 : Bool) (w : World)
    (p0 : ∀ w, Hid (Calls Try.prog 50 #[.agg #[.int .i64 x0, .int .i64 x1]] w fun e w' => e = .returned (.bool false) ∧ Below w.heap.size w w'))
    (p2 : ∀ w, Hid (Calls Try.prog 55 #[.agg #[.int .i64 x4, .int .i64 x5]] w fun e w' => e = .returned (.bool false) ∧ Below w.heap.size w w'))
    (p4 : ∀ w, Hid (Calls Try.prog 54 #[.int .i64 x8, .int .i64 1, .int .i64 1000] w fun e w' => e = .returned (.bool true) ∧ Below w.heap.size w w'))
    (p5 : ∀ w, Hid (Calls Try.prog 54 #[.int .i64 x9, .int .i64 0, .int .i64 1000] w fun e w' => e = .returned (.bool b5) ∧ Below w.heap.size w w')) :
    Calls Try.prog 32 #[.agg #[.int .i64 x0, .int .i64 x1, .int .i64 x2, .int .i64 x3, .int .i64 x4, .int .i64 x5, .int .i64 x6, .int .i64 x7, .int .i64 x8, .int .i64 x9]] w fun e w' => e = .returned (.int .i64 (firstC (false && b1) (false && b3) (true && b5))) ∧ Below w.heap.size w w' := by
  have hB := Blk.new w #[.int .i64 x0, .int .i64 x1, .int .i64 x2, .int .i64 x3, .int .i64 x4, .int .i64 x5, .int .i64 x6, .int .i64 x7, .int .i64 x8, .int .i64 x9] 61
  have hM : Mod (fun _ => False) w (w.alloc (.cells #[.int .i64 x0, .int .i64 x1, .int .i64 x2, .int .i64 x3, .int .i64 x4, .int .i64 x5, .int .i64 x6, .int .i64 x7, .int .i64 x8, .int .i64 x9] 61)) := (Mod.refl _ _).alloc _
  have k0 : ∀ x : Later (fun _ => False) (w.alloc (.cells #[.int .i64 x0, .int .i64 x1, .int .i64 x2, .int .i64 x3, .int .i64 x4, .int .i64 x5, .int .i64 x6, .int .i64 x7, .int .i64 x8, .int .i64 x9] 61)), x.val.cell? ⟨w.heap.size, 0, none⟩ = some (.int .i64 x0) := fun x => x.cell (hB.cell (i := 0) rfl) (by simp)
  have k1 : ∀ x : Later (fun _ => False) (w.alloc (.cells #[.int .i64 x0, .int .i64 x1, .int .i64 x2, .int .i64 x3, .int .i64 x4, .int .i64 x5, .int .i64 x6, .int .i64 x7, .int .i64 x8, .int .i64 x9] 61)), x.val.cell? ⟨w.heap.size, 1, none⟩ = some (.int .i64 x1) := fun x => x.cell (hB.cell (i := 1) rfl) (by simp)
  have k4 : ∀ x : Later (fun _ => False) (w.alloc (.cells #[.int .i64 x0, .int .i64 x1, .int .i64 x2, .int .i64 x3, .int .i64 x4, .int .i64 x5, .int .i64 x6, .int .i64 x7, .int .i64 x8, .int .i64 x9] 61)), x.val.cell? ⟨w.heap.size, 4, none⟩ = some (.int .i64 x4) := fun x => x.cell (hB.cell (i := 4) rfl) (by simp)
  have k5 : ∀ x : Later (fun _ => False) (w.alloc (.cells #[.int .i64 x0, .int .i64 x1, .int .i64 x2, .int .i64 x3, .int .i64 x4, .int .i64 x5, .int .i64 x6, .int .i64 x7, .int .i64 x8, .int .i64 x9] 61)), x.val.cell? ⟨w.heap.size, 5, none⟩ = some (.int .i64 x5) := fun x => x.cell (hB.cell (i := 5) rfl) (by simp)
  have k8 : ∀ x : Later (fun _ => False) (w.alloc (.cells #[.int .i64 x0, .int .i64 x1, .int .i64 x2, .int .i64 x3, .int .i64 x4, .int .i64 x5, .int .i64 x6, .int .i64 x7, .int .i64 x8, .int .i64 x9] 61)), x.val.cell? ⟨w.heap.size, 8, none⟩ = some (.int .i64 x8) := fun x => x.cell (hB.cell (i := 8) rfl) (by simp)
  have k9 : ∀ x : Later (fun _ => False) (w.alloc (.cells #[.int .i64 x0, .int .i64 x1, .int .i64 x2, .int .i64 x3, .int .i64 x4, .int .i64 x5, .int .i64 x6, .int .i64 x7, .int .i64 x8, .int .i64 x9] 61)), x.val.cell? ⟨w.heap.size, 9, none⟩ = some (.int .i64 x9) := fun x => x.cell (hB.cell (i := 9) rfl) (by simp)
  replace hB := Lib.hid hB
  go_enter Try.func32, Try.ntmps32
  go_wp2_with fail
  refine wp_region_then (C := fun w' => ∃ x : Later (fun _ => False) (w.alloc (.cells #[.int .i64 x0, .int .i64 x1, .int .i64 x2, .int .i64 x3, .int .i64 x4, .int .i64 x5, .int .i64 x6, .int .i64 x7, .int .i64 x8, .int .i64 x9] 61)), w' = x.val) 27 (by kernel_rfl) (by kernel_rfl) ⟨⟨_, (Mod.refl _ _).drew⟩, rfl⟩ ?_
  simp only [List.take_succ_cons, List.take_zero]
  repeat (go_big_quiet_step ((first | (go_at_call 50; with_reducible exact Calls.later (p0 _).out) | (go_at_call 55; with_reducible exact Calls.later (p2 _).out) | (go_at_call 54; with_reducible exact Calls.later (p4 _).out) | (go_at_call 54; with_reducible exact Calls.later (p5 _).out))))
  refine wpQuiet_nil ?_
  rintro _ ⟨x, rfl⟩
  refine wpAny_ready (rs := [27]) (by kernel_rfl) (by simp) ?_
  refine AllReady.cons rfl (fun K hK => ?_) AllReady.nil
  go_simp
  refine hK _ _ ?_
  clear hK K
  refine wpAny_ready (rs := [28]) (by kernel_rfl) (by simp) ?_
  refine AllReady.cons rfl (fun K hK => ?_) AllReady.nil
  go_simp
  refine (first_calls _ _ _ _ _ (Blk.new _ _ _)).mono ?_
  rintro e w2 ⟨rfl, hb2⟩
  refine hK _ _ ?_
  clear hK K
  refine wpAny_ready (rs := [29]) (by kernel_rfl) (by simp) ?_
  refine AllReady.cons rfl (fun K hK => ?_) AllReady.nil
  go_simp
  refine hK _ _ ?_
  clear hK K
  refine wpAny_done (by kernel_rfl) ?_ _
  go_wp2
  go_ret
  exact ⟨rfl, (((hM.trans x.mod).alloc _).after hb2).below (Nat.le_refl _) (fun _ h => h.elim)⟩

set_option maxHeartbeats 2000000 in
set_option maxRecDepth 100000 in
theorem check_ftf (x0 x1 x2 x3 x4 x5 x6 x7 x8 x9 : Int) (b1 b3 b5 : Bool) (w : World)
    (p0 : ∀ w, Hid (Calls Try.prog 50 #[.agg #[.int .i64 x0, .int .i64 x1]] w fun e w' => e = .returned (.bool false) ∧ Below w.heap.size w w'))
    (p2 : ∀ w, Hid (Calls Try.prog 55 #[.agg #[.int .i64 x4, .int .i64 x5]] w fun e w' => e = .returned (.bool true) ∧ Below w.heap.size w w'))
    (p3 : ∀ w, Hid (Calls Try.prog 55 #[.agg #[.int .i64 x6, .int .i64 x7]] w fun e w' => e = .returned (.bool b3) ∧ Below w.heap.size w w'))
    (p4 : ∀ w, Hid (Calls Try.prog 54 #[.int .i64 x8, .int .i64 1, .int .i64 1000] w fun e w' => e = .returned (.bool false) ∧ Below w.heap.size w w')) :
    Calls Try.prog 32 #[.agg #[.int .i64 x0, .int .i64 x1, .int .i64 x2, .int .i64 x3, .int .i64 x4, .int .i64 x5, .int .i64 x6, .int .i64 x7, .int .i64 x8, .int .i64 x9]] w fun e w' => e = .returned (.int .i64 (firstC (false && b1) (true && b3) (false && b5))) ∧ Below w.heap.size w w' := by
  have hB := Blk.new w #[.int .i64 x0, .int .i64 x1, .int .i64 x2, .int .i64 x3, .int .i64 x4, .int .i64 x5, .int .i64 x6, .int .i64 x7, .int .i64 x8, .int .i64 x9] 61
  have hM : Mod (fun _ => False) w (w.alloc (.cells #[.int .i64 x0, .int .i64 x1, .int .i64 x2, .int .i64 x3, .int .i64 x4, .int .i64 x5, .int .i64 x6, .int .i64 x7, .int .i64 x8, .int .i64 x9] 61)) := (Mod.refl _ _).alloc _
  have k0 : ∀ x : Later (fun _ => False) (w.alloc (.cells #[.int .i64 x0, .int .i64 x1, .int .i64 x2, .int .i64 x3, .int .i64 x4, .int .i64 x5, .int .i64 x6, .int .i64 x7, .int .i64 x8, .int .i64 x9] 61)), x.val.cell? ⟨w.heap.size, 0, none⟩ = some (.int .i64 x0) := fun x => x.cell (hB.cell (i := 0) rfl) (by simp)
  have k1 : ∀ x : Later (fun _ => False) (w.alloc (.cells #[.int .i64 x0, .int .i64 x1, .int .i64 x2, .int .i64 x3, .int .i64 x4, .int .i64 x5, .int .i64 x6, .int .i64 x7, .int .i64 x8, .int .i64 x9] 61)), x.val.cell? ⟨w.heap.size, 1, none⟩ = some (.int .i64 x1) := fun x => x.cell (hB.cell (i := 1) rfl) (by simp)
  have k4 : ∀ x : Later (fun _ => False) (w.alloc (.cells #[.int .i64 x0, .int .i64 x1, .int .i64 x2, .int .i64 x3, .int .i64 x4, .int .i64 x5, .int .i64 x6, .int .i64 x7, .int .i64 x8, .int .i64 x9] 61)), x.val.cell? ⟨w.heap.size, 4, none⟩ = some (.int .i64 x4) := fun x => x.cell (hB.cell (i := 4) rfl) (by simp)
  have k5 : ∀ x : Later (fun _ => False) (w.alloc (.cells #[.int .i64 x0, .int .i64 x1, .int .i64 x2, .int .i64 x3, .int .i64 x4, .int .i64 x5, .int .i64 x6, .int .i64 x7, .int .i64 x8, .int .i64 x9] 61)), x.val.cell? ⟨w.heap.size, 5, none⟩ = some (.int .i64 x5) := fun x => x.cell (hB.cell (i := 5) rfl) (by simp)
  have k6 : ∀ x : Later (fun _ => False) (w.alloc (.cells #[.int .i64 x0, .int .i64 x1, .int .i64 x2, .int .i64 x3, .int .i64 x4, .int .i64 x5, .int .i64 x6, .int .i64 x7, .int .i64 x8, .int .i64 x9] 61)), x.val.cell? ⟨w.heap.size, 6, none⟩ = some (.int .i64 x6) := fun x => x.cell (hB.cell (i := 6) rfl) (by simp)
  have k7 : ∀ x : Later (fun _ => False) (w.alloc (.cells #[.int .i64 x0, .int .i64 x1, .int .i64 x2, .int .i64 x3, .int .i64 x4, .int .i64 x5, .int .i64 x6, .int .i64 x7, .int .i64 x8, .int .i64 x9] 61)), x.val.cell? ⟨w.heap.size, 7, none⟩ = some (.int .i64 x7) := fun x => x.cell (hB.cell (i := 7) rfl) (by simp)
  have k8 : ∀ x : Later (fun _ => False) (w.alloc (.cells #[.int .i64 x0, .int .i64 x1, .int .i64 x2, .int .i64 x3, .int .i64 x4, .int .i64 x5, .int .i64 x6, .int .i64 x7, .int .i64 x8, .int .i64 x9] 61)), x.val.cell? ⟨w.heap.size, 8, none⟩ = some (.int .i64 x8) := fun x => x.cell (hB.cell (i := 8) rfl) (by simp)
  replace hB := Lib.hid hB
  go_enter Try.func32, Try.ntmps32
  go_wp2_with fail
  refine wp_region_then (C := fun w' => ∃ x : Later (fun _ => False) (w.alloc (.cells #[.int .i64 x0, .int .i64 x1, .int .i64 x2, .int .i64 x3, .int .i64 x4, .int .i64 x5, .int .i64 x6, .int .i64 x7, .int .i64 x8, .int .i64 x9] 61)), w' = x.val) 27 (by kernel_rfl) (by kernel_rfl) ⟨⟨_, (Mod.refl _ _).drew⟩, rfl⟩ ?_
  simp only [List.take_succ_cons, List.take_zero]
  repeat (go_big_quiet_step ((first | (go_at_call 50; with_reducible exact Calls.later (p0 _).out) | (go_at_call 55; with_reducible exact Calls.later (p2 _).out) | (go_at_call 55; with_reducible exact Calls.later (p3 _).out) | (go_at_call 54; with_reducible exact Calls.later (p4 _).out))))
  refine wpQuiet_nil ?_
  rintro _ ⟨x, rfl⟩
  refine wpAny_ready (rs := [27]) (by kernel_rfl) (by simp) ?_
  refine AllReady.cons rfl (fun K hK => ?_) AllReady.nil
  go_simp
  refine hK _ _ ?_
  clear hK K
  refine wpAny_ready (rs := [28]) (by kernel_rfl) (by simp) ?_
  refine AllReady.cons rfl (fun K hK => ?_) AllReady.nil
  go_simp
  refine (first_calls _ _ _ _ _ (Blk.new _ _ _)).mono ?_
  rintro e w2 ⟨rfl, hb2⟩
  refine hK _ _ ?_
  clear hK K
  refine wpAny_ready (rs := [29]) (by kernel_rfl) (by simp) ?_
  refine AllReady.cons rfl (fun K hK => ?_) AllReady.nil
  go_simp
  refine hK _ _ ?_
  clear hK K
  refine wpAny_done (by kernel_rfl) ?_ _
  go_wp2
  go_ret
  exact ⟨rfl, (((hM.trans x.mod).alloc _).after hb2).below (Nat.le_refl _) (fun _ h => h.elim)⟩

set_option maxHeartbeats 2000000 in
set_option maxRecDepth 100000 in
theorem check_ftt (x0 x1 x2 x3 x4 x5 x6 x7 x8 x9 : Int) (b1 b3 b5 : Bool) (w : World)
    (p0 : ∀ w, Hid (Calls Try.prog 50 #[.agg #[.int .i64 x0, .int .i64 x1]] w fun e w' => e = .returned (.bool false) ∧ Below w.heap.size w w'))
    (p2 : ∀ w, Hid (Calls Try.prog 55 #[.agg #[.int .i64 x4, .int .i64 x5]] w fun e w' => e = .returned (.bool true) ∧ Below w.heap.size w w'))
    (p3 : ∀ w, Hid (Calls Try.prog 55 #[.agg #[.int .i64 x6, .int .i64 x7]] w fun e w' => e = .returned (.bool b3) ∧ Below w.heap.size w w'))
    (p4 : ∀ w, Hid (Calls Try.prog 54 #[.int .i64 x8, .int .i64 1, .int .i64 1000] w fun e w' => e = .returned (.bool true) ∧ Below w.heap.size w w'))
    (p5 : ∀ w, Hid (Calls Try.prog 54 #[.int .i64 x9, .int .i64 0, .int .i64 1000] w fun e w' => e = .returned (.bool b5) ∧ Below w.heap.size w w')) :
    Calls Try.prog 32 #[.agg #[.int .i64 x0, .int .i64 x1, .int .i64 x2, .int .i64 x3, .int .i64 x4, .int .i64 x5, .int .i64 x6, .int .i64 x7, .int .i64 x8, .int .i64 x9]] w fun e w' => e = .returned (.int .i64 (firstC (false && b1) (true && b3) (true && b5))) ∧ Below w.heap.size w w' := by
  have hB := Blk.new w #[.int .i64 x0, .int .i64 x1, .int .i64 x2, .int .i64 x3, .int .i64 x4, .int .i64 x5, .int .i64 x6, .int .i64 x7, .int .i64 x8, .int .i64 x9] 61
  have hM : Mod (fun _ => False) w (w.alloc (.cells #[.int .i64 x0, .int .i64 x1, .int .i64 x2, .int .i64 x3, .int .i64 x4, .int .i64 x5, .int .i64 x6, .int .i64 x7, .int .i64 x8, .int .i64 x9] 61)) := (Mod.refl _ _).alloc _
  have k0 : ∀ x : Later (fun _ => False) (w.alloc (.cells #[.int .i64 x0, .int .i64 x1, .int .i64 x2, .int .i64 x3, .int .i64 x4, .int .i64 x5, .int .i64 x6, .int .i64 x7, .int .i64 x8, .int .i64 x9] 61)), x.val.cell? ⟨w.heap.size, 0, none⟩ = some (.int .i64 x0) := fun x => x.cell (hB.cell (i := 0) rfl) (by simp)
  have k1 : ∀ x : Later (fun _ => False) (w.alloc (.cells #[.int .i64 x0, .int .i64 x1, .int .i64 x2, .int .i64 x3, .int .i64 x4, .int .i64 x5, .int .i64 x6, .int .i64 x7, .int .i64 x8, .int .i64 x9] 61)), x.val.cell? ⟨w.heap.size, 1, none⟩ = some (.int .i64 x1) := fun x => x.cell (hB.cell (i := 1) rfl) (by simp)
  have k4 : ∀ x : Later (fun _ => False) (w.alloc (.cells #[.int .i64 x0, .int .i64 x1, .int .i64 x2, .int .i64 x3, .int .i64 x4, .int .i64 x5, .int .i64 x6, .int .i64 x7, .int .i64 x8, .int .i64 x9] 61)), x.val.cell? ⟨w.heap.size, 4, none⟩ = some (.int .i64 x4) := fun x => x.cell (hB.cell (i := 4) rfl) (by simp)
  have k5 : ∀ x : Later (fun _ => False) (w.alloc (.cells #[.int .i64 x0, .int .i64 x1, .int .i64 x2, .int .i64 x3, .int .i64 x4, .int .i64 x5, .int .i64 x6, .int .i64 x7, .int .i64 x8, .int .i64 x9] 61)), x.val.cell? ⟨w.heap.size, 5, none⟩ = some (.int .i64 x5) := fun x => x.cell (hB.cell (i := 5) rfl) (by simp)
  have k6 : ∀ x : Later (fun _ => False) (w.alloc (.cells #[.int .i64 x0, .int .i64 x1, .int .i64 x2, .int .i64 x3, .int .i64 x4, .int .i64 x5, .int .i64 x6, .int .i64 x7, .int .i64 x8, .int .i64 x9] 61)), x.val.cell? ⟨w.heap.size, 6, none⟩ = some (.int .i64 x6) := fun x => x.cell (hB.cell (i := 6) rfl) (by simp)
  have k7 : ∀ x : Later (fun _ => False) (w.alloc (.cells #[.int .i64 x0, .int .i64 x1, .int .i64 x2, .int .i64 x3, .int .i64 x4, .int .i64 x5, .int .i64 x6, .int .i64 x7, .int .i64 x8, .int .i64 x9] 61)), x.val.cell? ⟨w.heap.size, 7, none⟩ = some (.int .i64 x7) := fun x => x.cell (hB.cell (i := 7) rfl) (by simp)
  have k8 : ∀ x : Later (fun _ => False) (w.alloc (.cells #[.int .i64 x0, .int .i64 x1, .int .i64 x2, .int .i64 x3, .int .i64 x4, .int .i64 x5, .int .i64 x6, .int .i64 x7, .int .i64 x8, .int .i64 x9] 61)), x.val.cell? ⟨w.heap.size, 8, none⟩ = some (.int .i64 x8) := fun x => x.cell (hB.cell (i := 8) rfl) (by simp)
  have k9 : ∀ x : Later (fun _ => False) (w.alloc (.cells #[.int .i64 x0, .int .i64 x1, .int .i64 x2, .int .i64 x3, .int .i64 x4, .int .i64 x5, .int .i64 x6, .int .i64 x7, .int .i64 x8, .int .i64 x9] 61)), x.val.cell? ⟨w.heap.size, 9, none⟩ = some (.int .i64 x9) := fun x => x.cell (hB.cell (i := 9) rfl) (by simp)
  replace hB := Lib.hid hB
  go_enter Try.func32, Try.ntmps32
  go_wp2_with fail
  refine wp_region_then (C := fun w' => ∃ x : Later (fun _ => False) (w.alloc (.cells #[.int .i64 x0, .int .i64 x1, .int .i64 x2, .int .i64 x3, .int .i64 x4, .int .i64 x5, .int .i64 x6, .int .i64 x7, .int .i64 x8, .int .i64 x9] 61)), w' = x.val) 27 (by kernel_rfl) (by kernel_rfl) ⟨⟨_, (Mod.refl _ _).drew⟩, rfl⟩ ?_
  simp only [List.take_succ_cons, List.take_zero]
  repeat (go_big_quiet_step ((first | (go_at_call 50; with_reducible exact Calls.later (p0 _).out) | (go_at_call 55; with_reducible exact Calls.later (p2 _).out) | (go_at_call 55; with_reducible exact Calls.later (p3 _).out) | (go_at_call 54; with_reducible exact Calls.later (p4 _).out) | (go_at_call 54; with_reducible exact Calls.later (p5 _).out))))
  refine wpQuiet_nil ?_
  rintro _ ⟨x, rfl⟩
  refine wpAny_ready (rs := [27]) (by kernel_rfl) (by simp) ?_
  refine AllReady.cons rfl (fun K hK => ?_) AllReady.nil
  go_simp
  refine hK _ _ ?_
  clear hK K
  refine wpAny_ready (rs := [28]) (by kernel_rfl) (by simp) ?_
  refine AllReady.cons rfl (fun K hK => ?_) AllReady.nil
  go_simp
  refine (first_calls _ _ _ _ _ (Blk.new _ _ _)).mono ?_
  rintro e w2 ⟨rfl, hb2⟩
  refine hK _ _ ?_
  clear hK K
  refine wpAny_ready (rs := [29]) (by kernel_rfl) (by simp) ?_
  refine AllReady.cons rfl (fun K hK => ?_) AllReady.nil
  go_simp
  refine hK _ _ ?_
  clear hK K
  refine wpAny_done (by kernel_rfl) ?_ _
  go_wp2
  go_ret
  exact ⟨rfl, (((hM.trans x.mod).alloc _).after hb2).below (Nat.le_refl _) (fun _ h => h.elim)⟩

set_option maxHeartbeats 2000000 in
set_option maxRecDepth 100000 in
theorem check_tff (x0 x1 x2 x3 x4 x5 x6 x7 x8 x9 : Int) (b1 b3 b5 : Bool) (w : World)
    (p0 : ∀ w, Hid (Calls Try.prog 50 #[.agg #[.int .i64 x0, .int .i64 x1]] w fun e w' => e = .returned (.bool true) ∧ Below w.heap.size w w'))
    (p1 : ∀ w, Hid (Calls Try.prog 50 #[.agg #[.int .i64 x2, .int .i64 x3]] w fun e w' => e = .returned (.bool b1) ∧ Below w.heap.size w w'))
    (p2 : ∀ w, Hid (Calls Try.prog 55 #[.agg #[.int .i64 x4, .int .i64 x5]] w fun e w' => e = .returned (.bool false) ∧ Below w.heap.size w w'))
    (p4 : ∀ w, Hid (Calls Try.prog 54 #[.int .i64 x8, .int .i64 1, .int .i64 1000] w fun e w' => e = .returned (.bool false) ∧ Below w.heap.size w w')) :
    Calls Try.prog 32 #[.agg #[.int .i64 x0, .int .i64 x1, .int .i64 x2, .int .i64 x3, .int .i64 x4, .int .i64 x5, .int .i64 x6, .int .i64 x7, .int .i64 x8, .int .i64 x9]] w fun e w' => e = .returned (.int .i64 (firstC (true && b1) (false && b3) (false && b5))) ∧ Below w.heap.size w w' := by
  have hB := Blk.new w #[.int .i64 x0, .int .i64 x1, .int .i64 x2, .int .i64 x3, .int .i64 x4, .int .i64 x5, .int .i64 x6, .int .i64 x7, .int .i64 x8, .int .i64 x9] 61
  have hM : Mod (fun _ => False) w (w.alloc (.cells #[.int .i64 x0, .int .i64 x1, .int .i64 x2, .int .i64 x3, .int .i64 x4, .int .i64 x5, .int .i64 x6, .int .i64 x7, .int .i64 x8, .int .i64 x9] 61)) := (Mod.refl _ _).alloc _
  have k0 : ∀ x : Later (fun _ => False) (w.alloc (.cells #[.int .i64 x0, .int .i64 x1, .int .i64 x2, .int .i64 x3, .int .i64 x4, .int .i64 x5, .int .i64 x6, .int .i64 x7, .int .i64 x8, .int .i64 x9] 61)), x.val.cell? ⟨w.heap.size, 0, none⟩ = some (.int .i64 x0) := fun x => x.cell (hB.cell (i := 0) rfl) (by simp)
  have k1 : ∀ x : Later (fun _ => False) (w.alloc (.cells #[.int .i64 x0, .int .i64 x1, .int .i64 x2, .int .i64 x3, .int .i64 x4, .int .i64 x5, .int .i64 x6, .int .i64 x7, .int .i64 x8, .int .i64 x9] 61)), x.val.cell? ⟨w.heap.size, 1, none⟩ = some (.int .i64 x1) := fun x => x.cell (hB.cell (i := 1) rfl) (by simp)
  have k2 : ∀ x : Later (fun _ => False) (w.alloc (.cells #[.int .i64 x0, .int .i64 x1, .int .i64 x2, .int .i64 x3, .int .i64 x4, .int .i64 x5, .int .i64 x6, .int .i64 x7, .int .i64 x8, .int .i64 x9] 61)), x.val.cell? ⟨w.heap.size, 2, none⟩ = some (.int .i64 x2) := fun x => x.cell (hB.cell (i := 2) rfl) (by simp)
  have k3 : ∀ x : Later (fun _ => False) (w.alloc (.cells #[.int .i64 x0, .int .i64 x1, .int .i64 x2, .int .i64 x3, .int .i64 x4, .int .i64 x5, .int .i64 x6, .int .i64 x7, .int .i64 x8, .int .i64 x9] 61)), x.val.cell? ⟨w.heap.size, 3, none⟩ = some (.int .i64 x3) := fun x => x.cell (hB.cell (i := 3) rfl) (by simp)
  have k4 : ∀ x : Later (fun _ => False) (w.alloc (.cells #[.int .i64 x0, .int .i64 x1, .int .i64 x2, .int .i64 x3, .int .i64 x4, .int .i64 x5, .int .i64 x6, .int .i64 x7, .int .i64 x8, .int .i64 x9] 61)), x.val.cell? ⟨w.heap.size, 4, none⟩ = some (.int .i64 x4) := fun x => x.cell (hB.cell (i := 4) rfl) (by simp)
  have k5 : ∀ x : Later (fun _ => False) (w.alloc (.cells #[.int .i64 x0, .int .i64 x1, .int .i64 x2, .int .i64 x3, .int .i64 x4, .int .i64 x5, .int .i64 x6, .int .i64 x7, .int .i64 x8, .int .i64 x9] 61)), x.val.cell? ⟨w.heap.size, 5, none⟩ = some (.int .i64 x5) := fun x => x.cell (hB.cell (i := 5) rfl) (by simp)
  have k8 : ∀ x : Later (fun _ => False) (w.alloc (.cells #[.int .i64 x0, .int .i64 x1, .int .i64 x2, .int .i64 x3, .int .i64 x4, .int .i64 x5, .int .i64 x6, .int .i64 x7, .int .i64 x8, .int .i64 x9] 61)), x.val.cell? ⟨w.heap.size, 8, none⟩ = some (.int .i64 x8) := fun x => x.cell (hB.cell (i := 8) rfl) (by simp)
  replace hB := Lib.hid hB
  go_enter Try.func32, Try.ntmps32
  go_wp2_with fail
  refine wp_region_then (C := fun w' => ∃ x : Later (fun _ => False) (w.alloc (.cells #[.int .i64 x0, .int .i64 x1, .int .i64 x2, .int .i64 x3, .int .i64 x4, .int .i64 x5, .int .i64 x6, .int .i64 x7, .int .i64 x8, .int .i64 x9] 61)), w' = x.val) 27 (by kernel_rfl) (by kernel_rfl) ⟨⟨_, (Mod.refl _ _).drew⟩, rfl⟩ ?_
  simp only [List.take_succ_cons, List.take_zero]
  repeat (go_big_quiet_step ((first | (go_at_call 50; with_reducible exact Calls.later (p0 _).out) | (go_at_call 50; with_reducible exact Calls.later (p1 _).out) | (go_at_call 55; with_reducible exact Calls.later (p2 _).out) | (go_at_call 54; with_reducible exact Calls.later (p4 _).out))))
  refine wpQuiet_nil ?_
  rintro _ ⟨x, rfl⟩
  refine wpAny_ready (rs := [27]) (by kernel_rfl) (by simp) ?_
  refine AllReady.cons rfl (fun K hK => ?_) AllReady.nil
  go_simp
  refine hK _ _ ?_
  clear hK K
  refine wpAny_ready (rs := [28]) (by kernel_rfl) (by simp) ?_
  refine AllReady.cons rfl (fun K hK => ?_) AllReady.nil
  go_simp
  refine (first_calls _ _ _ _ _ (Blk.new _ _ _)).mono ?_
  rintro e w2 ⟨rfl, hb2⟩
  refine hK _ _ ?_
  clear hK K
  refine wpAny_ready (rs := [29]) (by kernel_rfl) (by simp) ?_
  refine AllReady.cons rfl (fun K hK => ?_) AllReady.nil
  go_simp
  refine hK _ _ ?_
  clear hK K
  refine wpAny_done (by kernel_rfl) ?_ _
  go_wp2
  go_ret
  exact ⟨rfl, (((hM.trans x.mod).alloc _).after hb2).below (Nat.le_refl _) (fun _ h => h.elim)⟩

set_option maxHeartbeats 2000000 in
set_option maxRecDepth 100000 in
theorem check_tft (x0 x1 x2 x3 x4 x5 x6 x7 x8 x9 : Int) (b1 b3 b5 : Bool) (w : World)
    (p0 : ∀ w, Hid (Calls Try.prog 50 #[.agg #[.int .i64 x0, .int .i64 x1]] w fun e w' => e = .returned (.bool true) ∧ Below w.heap.size w w'))
    (p1 : ∀ w, Hid (Calls Try.prog 50 #[.agg #[.int .i64 x2, .int .i64 x3]] w fun e w' => e = .returned (.bool b1) ∧ Below w.heap.size w w'))
    (p2 : ∀ w, Hid (Calls Try.prog 55 #[.agg #[.int .i64 x4, .int .i64 x5]] w fun e w' => e = .returned (.bool false) ∧ Below w.heap.size w w'))
    (p4 : ∀ w, Hid (Calls Try.prog 54 #[.int .i64 x8, .int .i64 1, .int .i64 1000] w fun e w' => e = .returned (.bool true) ∧ Below w.heap.size w w'))
    (p5 : ∀ w, Hid (Calls Try.prog 54 #[.int .i64 x9, .int .i64 0, .int .i64 1000] w fun e w' => e = .returned (.bool b5) ∧ Below w.heap.size w w')) :
    Calls Try.prog 32 #[.agg #[.int .i64 x0, .int .i64 x1, .int .i64 x2, .int .i64 x3, .int .i64 x4, .int .i64 x5, .int .i64 x6, .int .i64 x7, .int .i64 x8, .int .i64 x9]] w fun e w' => e = .returned (.int .i64 (firstC (true && b1) (false && b3) (true && b5))) ∧ Below w.heap.size w w' := by
  have hB := Blk.new w #[.int .i64 x0, .int .i64 x1, .int .i64 x2, .int .i64 x3, .int .i64 x4, .int .i64 x5, .int .i64 x6, .int .i64 x7, .int .i64 x8, .int .i64 x9] 61
  have hM : Mod (fun _ => False) w (w.alloc (.cells #[.int .i64 x0, .int .i64 x1, .int .i64 x2, .int .i64 x3, .int .i64 x4, .int .i64 x5, .int .i64 x6, .int .i64 x7, .int .i64 x8, .int .i64 x9] 61)) := (Mod.refl _ _).alloc _
  have k0 : ∀ x : Later (fun _ => False) (w.alloc (.cells #[.int .i64 x0, .int .i64 x1, .int .i64 x2, .int .i64 x3, .int .i64 x4, .int .i64 x5, .int .i64 x6, .int .i64 x7, .int .i64 x8, .int .i64 x9] 61)), x.val.cell? ⟨w.heap.size, 0, none⟩ = some (.int .i64 x0) := fun x => x.cell (hB.cell (i := 0) rfl) (by simp)
  have k1 : ∀ x : Later (fun _ => False) (w.alloc (.cells #[.int .i64 x0, .int .i64 x1, .int .i64 x2, .int .i64 x3, .int .i64 x4, .int .i64 x5, .int .i64 x6, .int .i64 x7, .int .i64 x8, .int .i64 x9] 61)), x.val.cell? ⟨w.heap.size, 1, none⟩ = some (.int .i64 x1) := fun x => x.cell (hB.cell (i := 1) rfl) (by simp)
  have k2 : ∀ x : Later (fun _ => False) (w.alloc (.cells #[.int .i64 x0, .int .i64 x1, .int .i64 x2, .int .i64 x3, .int .i64 x4, .int .i64 x5, .int .i64 x6, .int .i64 x7, .int .i64 x8, .int .i64 x9] 61)), x.val.cell? ⟨w.heap.size, 2, none⟩ = some (.int .i64 x2) := fun x => x.cell (hB.cell (i := 2) rfl) (by simp)
  have k3 : ∀ x : Later (fun _ => False) (w.alloc (.cells #[.int .i64 x0, .int .i64 x1, .int .i64 x2, .int .i64 x3, .int .i64 x4, .int .i64 x5, .int .i64 x6, .int .i64 x7, .int .i64 x8, .int .i64 x9] 61)), x.val.cell? ⟨w.heap.size, 3, none⟩ = some (.int .i64 x3) := fun x => x.cell (hB.cell (i := 3) rfl) (by simp)
  have k4 : ∀ x : Later (fun _ => False) (w.alloc (.cells #[.int .i64 x0, .int .i64 x1, .int .i64 x2, .int .i64 x3, .int .i64 x4, .int .i64 x5, .int .i64 x6, .int .i64 x7, .int .i64 x8, .int .i64 x9] 61)), x.val.cell? ⟨w.heap.size, 4, none⟩ = some (.int .i64 x4) := fun x => x.cell (hB.cell (i := 4) rfl) (by simp)
  have k5 : ∀ x : Later (fun _ => False) (w.alloc (.cells #[.int .i64 x0, .int .i64 x1, .int .i64 x2, .int .i64 x3, .int .i64 x4, .int .i64 x5, .int .i64 x6, .int .i64 x7, .int .i64 x8, .int .i64 x9] 61)), x.val.cell? ⟨w.heap.size, 5, none⟩ = some (.int .i64 x5) := fun x => x.cell (hB.cell (i := 5) rfl) (by simp)
  have k8 : ∀ x : Later (fun _ => False) (w.alloc (.cells #[.int .i64 x0, .int .i64 x1, .int .i64 x2, .int .i64 x3, .int .i64 x4, .int .i64 x5, .int .i64 x6, .int .i64 x7, .int .i64 x8, .int .i64 x9] 61)), x.val.cell? ⟨w.heap.size, 8, none⟩ = some (.int .i64 x8) := fun x => x.cell (hB.cell (i := 8) rfl) (by simp)
  have k9 : ∀ x : Later (fun _ => False) (w.alloc (.cells #[.int .i64 x0, .int .i64 x1, .int .i64 x2, .int .i64 x3, .int .i64 x4, .int .i64 x5, .int .i64 x6, .int .i64 x7, .int .i64 x8, .int .i64 x9] 61)), x.val.cell? ⟨w.heap.size, 9, none⟩ = some (.int .i64 x9) := fun x => x.cell (hB.cell (i := 9) rfl) (by simp)
  replace hB := Lib.hid hB
  go_enter Try.func32, Try.ntmps32
  go_wp2_with fail
  refine wp_region_then (C := fun w' => ∃ x : Later (fun _ => False) (w.alloc (.cells #[.int .i64 x0, .int .i64 x1, .int .i64 x2, .int .i64 x3, .int .i64 x4, .int .i64 x5, .int .i64 x6, .int .i64 x7, .int .i64 x8, .int .i64 x9] 61)), w' = x.val) 27 (by kernel_rfl) (by kernel_rfl) ⟨⟨_, (Mod.refl _ _).drew⟩, rfl⟩ ?_
  simp only [List.take_succ_cons, List.take_zero]
  repeat (go_big_quiet_step ((first | (go_at_call 50; with_reducible exact Calls.later (p0 _).out) | (go_at_call 50; with_reducible exact Calls.later (p1 _).out) | (go_at_call 55; with_reducible exact Calls.later (p2 _).out) | (go_at_call 54; with_reducible exact Calls.later (p4 _).out) | (go_at_call 54; with_reducible exact Calls.later (p5 _).out))))
  refine wpQuiet_nil ?_
  rintro _ ⟨x, rfl⟩
  refine wpAny_ready (rs := [27]) (by kernel_rfl) (by simp) ?_
  refine AllReady.cons rfl (fun K hK => ?_) AllReady.nil
  go_simp
  refine hK _ _ ?_
  clear hK K
  refine wpAny_ready (rs := [28]) (by kernel_rfl) (by simp) ?_
  refine AllReady.cons rfl (fun K hK => ?_) AllReady.nil
  go_simp
  refine (first_calls _ _ _ _ _ (Blk.new _ _ _)).mono ?_
  rintro e w2 ⟨rfl, hb2⟩
  refine hK _ _ ?_
  clear hK K
  refine wpAny_ready (rs := [29]) (by kernel_rfl) (by simp) ?_
  refine AllReady.cons rfl (fun K hK => ?_) AllReady.nil
  go_simp
  refine hK _ _ ?_
  clear hK K
  refine wpAny_done (by kernel_rfl) ?_ _
  go_wp2
  go_ret
  exact ⟨rfl, (((hM.trans x.mod).alloc _).after hb2).below (Nat.le_refl _) (fun _ h => h.elim)⟩

set_option maxHeartbeats 2000000 in
set_option maxRecDepth 100000 in
theorem check_ttf (x0 x1 x2 x3 x4 x5 x6 x7 x8 x9 : Int) (b1 b3 b5 : Bool) (w : World)
    (p0 : ∀ w, Hid (Calls Try.prog 50 #[.agg #[.int .i64 x0, .int .i64 x1]] w fun e w' => e = .returned (.bool true) ∧ Below w.heap.size w w'))
    (p1 : ∀ w, Hid (Calls Try.prog 50 #[.agg #[.int .i64 x2, .int .i64 x3]] w fun e w' => e = .returned (.bool b1) ∧ Below w.heap.size w w'))
    (p2 : ∀ w, Hid (Calls Try.prog 55 #[.agg #[.int .i64 x4, .int .i64 x5]] w fun e w' => e = .returned (.bool true) ∧ Below w.heap.size w w'))
    (p3 : ∀ w, Hid (Calls Try.prog 55 #[.agg #[.int .i64 x6, .int .i64 x7]] w fun e w' => e = .returned (.bool b3) ∧ Below w.heap.size w w'))
    (p4 : ∀ w, Hid (Calls Try.prog 54 #[.int .i64 x8, .int .i64 1, .int .i64 1000] w fun e w' => e = .returned (.bool false) ∧ Below w.heap.size w w')) :
    Calls Try.prog 32 #[.agg #[.int .i64 x0, .int .i64 x1, .int .i64 x2, .int .i64 x3, .int .i64 x4, .int .i64 x5, .int .i64 x6, .int .i64 x7, .int .i64 x8, .int .i64 x9]] w fun e w' => e = .returned (.int .i64 (firstC (true && b1) (true && b3) (false && b5))) ∧ Below w.heap.size w w' := by
  have hB := Blk.new w #[.int .i64 x0, .int .i64 x1, .int .i64 x2, .int .i64 x3, .int .i64 x4, .int .i64 x5, .int .i64 x6, .int .i64 x7, .int .i64 x8, .int .i64 x9] 61
  have hM : Mod (fun _ => False) w (w.alloc (.cells #[.int .i64 x0, .int .i64 x1, .int .i64 x2, .int .i64 x3, .int .i64 x4, .int .i64 x5, .int .i64 x6, .int .i64 x7, .int .i64 x8, .int .i64 x9] 61)) := (Mod.refl _ _).alloc _
  have k0 : ∀ x : Later (fun _ => False) (w.alloc (.cells #[.int .i64 x0, .int .i64 x1, .int .i64 x2, .int .i64 x3, .int .i64 x4, .int .i64 x5, .int .i64 x6, .int .i64 x7, .int .i64 x8, .int .i64 x9] 61)), x.val.cell? ⟨w.heap.size, 0, none⟩ = some (.int .i64 x0) := fun x => x.cell (hB.cell (i := 0) rfl) (by simp)
  have k1 : ∀ x : Later (fun _ => False) (w.alloc (.cells #[.int .i64 x0, .int .i64 x1, .int .i64 x2, .int .i64 x3, .int .i64 x4, .int .i64 x5, .int .i64 x6, .int .i64 x7, .int .i64 x8, .int .i64 x9] 61)), x.val.cell? ⟨w.heap.size, 1, none⟩ = some (.int .i64 x1) := fun x => x.cell (hB.cell (i := 1) rfl) (by simp)
  have k2 : ∀ x : Later (fun _ => False) (w.alloc (.cells #[.int .i64 x0, .int .i64 x1, .int .i64 x2, .int .i64 x3, .int .i64 x4, .int .i64 x5, .int .i64 x6, .int .i64 x7, .int .i64 x8, .int .i64 x9] 61)), x.val.cell? ⟨w.heap.size, 2, none⟩ = some (.int .i64 x2) := fun x => x.cell (hB.cell (i := 2) rfl) (by simp)
  have k3 : ∀ x : Later (fun _ => False) (w.alloc (.cells #[.int .i64 x0, .int .i64 x1, .int .i64 x2, .int .i64 x3, .int .i64 x4, .int .i64 x5, .int .i64 x6, .int .i64 x7, .int .i64 x8, .int .i64 x9] 61)), x.val.cell? ⟨w.heap.size, 3, none⟩ = some (.int .i64 x3) := fun x => x.cell (hB.cell (i := 3) rfl) (by simp)
  have k4 : ∀ x : Later (fun _ => False) (w.alloc (.cells #[.int .i64 x0, .int .i64 x1, .int .i64 x2, .int .i64 x3, .int .i64 x4, .int .i64 x5, .int .i64 x6, .int .i64 x7, .int .i64 x8, .int .i64 x9] 61)), x.val.cell? ⟨w.heap.size, 4, none⟩ = some (.int .i64 x4) := fun x => x.cell (hB.cell (i := 4) rfl) (by simp)
  have k5 : ∀ x : Later (fun _ => False) (w.alloc (.cells #[.int .i64 x0, .int .i64 x1, .int .i64 x2, .int .i64 x3, .int .i64 x4, .int .i64 x5, .int .i64 x6, .int .i64 x7, .int .i64 x8, .int .i64 x9] 61)), x.val.cell? ⟨w.heap.size, 5, none⟩ = some (.int .i64 x5) := fun x => x.cell (hB.cell (i := 5) rfl) (by simp)
  have k6 : ∀ x : Later (fun _ => False) (w.alloc (.cells #[.int .i64 x0, .int .i64 x1, .int .i64 x2, .int .i64 x3, .int .i64 x4, .int .i64 x5, .int .i64 x6, .int .i64 x7, .int .i64 x8, .int .i64 x9] 61)), x.val.cell? ⟨w.heap.size, 6, none⟩ = some (.int .i64 x6) := fun x => x.cell (hB.cell (i := 6) rfl) (by simp)
  have k7 : ∀ x : Later (fun _ => False) (w.alloc (.cells #[.int .i64 x0, .int .i64 x1, .int .i64 x2, .int .i64 x3, .int .i64 x4, .int .i64 x5, .int .i64 x6, .int .i64 x7, .int .i64 x8, .int .i64 x9] 61)), x.val.cell? ⟨w.heap.size, 7, none⟩ = some (.int .i64 x7) := fun x => x.cell (hB.cell (i := 7) rfl) (by simp)
  have k8 : ∀ x : Later (fun _ => False) (w.alloc (.cells #[.int .i64 x0, .int .i64 x1, .int .i64 x2, .int .i64 x3, .int .i64 x4, .int .i64 x5, .int .i64 x6, .int .i64 x7, .int .i64 x8, .int .i64 x9] 61)), x.val.cell? ⟨w.heap.size, 8, none⟩ = some (.int .i64 x8) := fun x => x.cell (hB.cell (i := 8) rfl) (by simp)
  replace hB := Lib.hid hB
  go_enter Try.func32, Try.ntmps32
  go_wp2_with fail
  refine wp_region_then (C := fun w' => ∃ x : Later (fun _ => False) (w.alloc (.cells #[.int .i64 x0, .int .i64 x1, .int .i64 x2, .int .i64 x3, .int .i64 x4, .int .i64 x5, .int .i64 x6, .int .i64 x7, .int .i64 x8, .int .i64 x9] 61)), w' = x.val) 27 (by kernel_rfl) (by kernel_rfl) ⟨⟨_, (Mod.refl _ _).drew⟩, rfl⟩ ?_
  simp only [List.take_succ_cons, List.take_zero]
  repeat (go_big_quiet_step ((first | (go_at_call 50; with_reducible exact Calls.later (p0 _).out) | (go_at_call 50; with_reducible exact Calls.later (p1 _).out) | (go_at_call 55; with_reducible exact Calls.later (p2 _).out) | (go_at_call 55; with_reducible exact Calls.later (p3 _).out) | (go_at_call 54; with_reducible exact Calls.later (p4 _).out))))
  refine wpQuiet_nil ?_
  rintro _ ⟨x, rfl⟩
  refine wpAny_ready (rs := [27]) (by kernel_rfl) (by simp) ?_
  refine AllReady.cons rfl (fun K hK => ?_) AllReady.nil
  go_simp
  refine hK _ _ ?_
  clear hK K
  refine wpAny_ready (rs := [28]) (by kernel_rfl) (by simp) ?_
  refine AllReady.cons rfl (fun K hK => ?_) AllReady.nil
  go_simp
  refine (first_calls _ _ _ _ _ (Blk.new _ _ _)).mono ?_
  rintro e w2 ⟨rfl, hb2⟩
  refine hK _ _ ?_
  clear hK K
  refine wpAny_ready (rs := [29]) (by kernel_rfl) (by simp) ?_
  refine AllReady.cons rfl (fun K hK => ?_) AllReady.nil
  go_simp
  refine hK _ _ ?_
  clear hK K
  refine wpAny_done (by kernel_rfl) ?_ _
  go_wp2
  go_ret
  exact ⟨rfl, (((hM.trans x.mod).alloc _).after hb2).below (Nat.le_refl _) (fun _ h => h.elim)⟩

set_option maxHeartbeats 2000000 in
set_option maxRecDepth 100000 in
theorem check_ttt (x0 x1 x2 x3 x4 x5 x6 x7 x8 x9 : Int) (b1 b3 b5 : Bool) (w : World)
    (p0 : ∀ w, Hid (Calls Try.prog 50 #[.agg #[.int .i64 x0, .int .i64 x1]] w fun e w' => e = .returned (.bool true) ∧ Below w.heap.size w w'))
    (p1 : ∀ w, Hid (Calls Try.prog 50 #[.agg #[.int .i64 x2, .int .i64 x3]] w fun e w' => e = .returned (.bool b1) ∧ Below w.heap.size w w'))
    (p2 : ∀ w, Hid (Calls Try.prog 55 #[.agg #[.int .i64 x4, .int .i64 x5]] w fun e w' => e = .returned (.bool true) ∧ Below w.heap.size w w'))
    (p3 : ∀ w, Hid (Calls Try.prog 55 #[.agg #[.int .i64 x6, .int .i64 x7]] w fun e w' => e = .returned (.bool b3) ∧ Below w.heap.size w w'))
    (p4 : ∀ w, Hid (Calls Try.prog 54 #[.int .i64 x8, .int .i64 1, .int .i64 1000] w fun e w' => e = .returned (.bool true) ∧ Below w.heap.size w w'))
    (p5 : ∀ w, Hid (Calls Try.prog 54 #[.int .i64 x9, .int .i64 0, .int .i64 1000] w fun e w' => e = .returned (.bool b5) ∧ Below w.heap.size w w')) :
    Calls Try.prog 32 #[.agg #[.int .i64 x0, .int .i64 x1, .int .i64 x2, .int .i64 x3, .int .i64 x4, .int .i64 x5, .int .i64 x6, .int .i64 x7, .int .i64 x8, .int .i64 x9]] w fun e w' => e = .returned (.int .i64 (firstC (true && b1) (true && b3) (true && b5))) ∧ Below w.heap.size w w' := by
  have hB := Blk.new w #[.int .i64 x0, .int .i64 x1, .int .i64 x2, .int .i64 x3, .int .i64 x4, .int .i64 x5, .int .i64 x6, .int .i64 x7, .int .i64 x8, .int .i64 x9] 61
  have hM : Mod (fun _ => False) w (w.alloc (.cells #[.int .i64 x0, .int .i64 x1, .int .i64 x2, .int .i64 x3, .int .i64 x4, .int .i64 x5, .int .i64 x6, .int .i64 x7, .int .i64 x8, .int .i64 x9] 61)) := (Mod.refl _ _).alloc _
  have k0 : ∀ x : Later (fun _ => False) (w.alloc (.cells #[.int .i64 x0, .int .i64 x1, .int .i64 x2, .int .i64 x3, .int .i64 x4, .int .i64 x5, .int .i64 x6, .int .i64 x7, .int .i64 x8, .int .i64 x9] 61)), x.val.cell? ⟨w.heap.size, 0, none⟩ = some (.int .i64 x0) := fun x => x.cell (hB.cell (i := 0) rfl) (by simp)
  have k1 : ∀ x : Later (fun _ => False) (w.alloc (.cells #[.int .i64 x0, .int .i64 x1, .int .i64 x2, .int .i64 x3, .int .i64 x4, .int .i64 x5, .int .i64 x6, .int .i64 x7, .int .i64 x8, .int .i64 x9] 61)), x.val.cell? ⟨w.heap.size, 1, none⟩ = some (.int .i64 x1) := fun x => x.cell (hB.cell (i := 1) rfl) (by simp)
  have k2 : ∀ x : Later (fun _ => False) (w.alloc (.cells #[.int .i64 x0, .int .i64 x1, .int .i64 x2, .int .i64 x3, .int .i64 x4, .int .i64 x5, .int .i64 x6, .int .i64 x7, .int .i64 x8, .int .i64 x9] 61)), x.val.cell? ⟨w.heap.size, 2, none⟩ = some (.int .i64 x2) := fun x => x.cell (hB.cell (i := 2) rfl) (by simp)
  have k3 : ∀ x : Later (fun _ => False) (w.alloc (.cells #[.int .i64 x0, .int .i64 x1, .int .i64 x2, .int .i64 x3, .int .i64 x4, .int .i64 x5, .int .i64 x6, .int .i64 x7, .int .i64 x8, .int .i64 x9] 61)), x.val.cell? ⟨w.heap.size, 3, none⟩ = some (.int .i64 x3) := fun x => x.cell (hB.cell (i := 3) rfl) (by simp)
  have k4 : ∀ x : Later (fun _ => False) (w.alloc (.cells #[.int .i64 x0, .int .i64 x1, .int .i64 x2, .int .i64 x3, .int .i64 x4, .int .i64 x5, .int .i64 x6, .int .i64 x7, .int .i64 x8, .int .i64 x9] 61)), x.val.cell? ⟨w.heap.size, 4, none⟩ = some (.int .i64 x4) := fun x => x.cell (hB.cell (i := 4) rfl) (by simp)
  have k5 : ∀ x : Later (fun _ => False) (w.alloc (.cells #[.int .i64 x0, .int .i64 x1, .int .i64 x2, .int .i64 x3, .int .i64 x4, .int .i64 x5, .int .i64 x6, .int .i64 x7, .int .i64 x8, .int .i64 x9] 61)), x.val.cell? ⟨w.heap.size, 5, none⟩ = some (.int .i64 x5) := fun x => x.cell (hB.cell (i := 5) rfl) (by simp)
  have k6 : ∀ x : Later (fun _ => False) (w.alloc (.cells #[.int .i64 x0, .int .i64 x1, .int .i64 x2, .int .i64 x3, .int .i64 x4, .int .i64 x5, .int .i64 x6, .int .i64 x7, .int .i64 x8, .int .i64 x9] 61)), x.val.cell? ⟨w.heap.size, 6, none⟩ = some (.int .i64 x6) := fun x => x.cell (hB.cell (i := 6) rfl) (by simp)
  have k7 : ∀ x : Later (fun _ => False) (w.alloc (.cells #[.int .i64 x0, .int .i64 x1, .int .i64 x2, .int .i64 x3, .int .i64 x4, .int .i64 x5, .int .i64 x6, .int .i64 x7, .int .i64 x8, .int .i64 x9] 61)), x.val.cell? ⟨w.heap.size, 7, none⟩ = some (.int .i64 x7) := fun x => x.cell (hB.cell (i := 7) rfl) (by simp)
  have k8 : ∀ x : Later (fun _ => False) (w.alloc (.cells #[.int .i64 x0, .int .i64 x1, .int .i64 x2, .int .i64 x3, .int .i64 x4, .int .i64 x5, .int .i64 x6, .int .i64 x7, .int .i64 x8, .int .i64 x9] 61)), x.val.cell? ⟨w.heap.size, 8, none⟩ = some (.int .i64 x8) := fun x => x.cell (hB.cell (i := 8) rfl) (by simp)
  have k9 : ∀ x : Later (fun _ => False) (w.alloc (.cells #[.int .i64 x0, .int .i64 x1, .int .i64 x2, .int .i64 x3, .int .i64 x4, .int .i64 x5, .int .i64 x6, .int .i64 x7, .int .i64 x8, .int .i64 x9] 61)), x.val.cell? ⟨w.heap.size, 9, none⟩ = some (.int .i64 x9) := fun x => x.cell (hB.cell (i := 9) rfl) (by simp)
  replace hB := Lib.hid hB
  go_enter Try.func32, Try.ntmps32
  go_wp2_with fail
  refine wp_region_then (C := fun w' => ∃ x : Later (fun _ => False) (w.alloc (.cells #[.int .i64 x0, .int .i64 x1, .int .i64 x2, .int .i64 x3, .int .i64 x4, .int .i64 x5, .int .i64 x6, .int .i64 x7, .int .i64 x8, .int .i64 x9] 61)), w' = x.val) 27 (by kernel_rfl) (by kernel_rfl) ⟨⟨_, (Mod.refl _ _).drew⟩, rfl⟩ ?_
  simp only [List.take_succ_cons, List.take_zero]
  repeat (go_big_quiet_step ((first | (go_at_call 50; with_reducible exact Calls.later (p0 _).out) | (go_at_call 50; with_reducible exact Calls.later (p1 _).out) | (go_at_call 55; with_reducible exact Calls.later (p2 _).out) | (go_at_call 55; with_reducible exact Calls.later (p3 _).out) | (go_at_call 54; with_reducible exact Calls.later (p4 _).out) | (go_at_call 54; with_reducible exact Calls.later (p5 _).out))))
  refine wpQuiet_nil ?_
  rintro _ ⟨x, rfl⟩
  refine wpAny_ready (rs := [27]) (by kernel_rfl) (by simp) ?_
  refine AllReady.cons rfl (fun K hK => ?_) AllReady.nil
  go_simp
  refine hK _ _ ?_
  clear hK K
  refine wpAny_ready (rs := [28]) (by kernel_rfl) (by simp) ?_
  refine AllReady.cons rfl (fun K hK => ?_) AllReady.nil
  go_simp
  refine (first_calls _ _ _ _ _ (Blk.new _ _ _)).mono ?_
  rintro e w2 ⟨rfl, hb2⟩
  refine hK _ _ ?_
  clear hK K
  refine wpAny_ready (rs := [29]) (by kernel_rfl) (by simp) ?_
  refine AllReady.cons rfl (fun K hK => ?_) AllReady.nil
  go_simp
  refine hK _ _ ?_
  clear hK K
  refine wpAny_done (by kernel_rfl) ?_ _
  go_wp2
  go_ret
  exact ⟨rfl, (((hM.trans x.mod).alloc _).after hb2).below (Nat.le_refl _) (fun _ h => h.elim)⟩

theorem check_calls (x0 x1 x2 x3 x4 x5 x6 x7 x8 x9 : Int) (w : World) :
    Calls Try.prog 32 #[.agg #[.int .i64 x0, .int .i64 x1, .int .i64 x2, .int .i64 x3, .int .i64 x4, .int .i64 x5, .int .i64 x6, .int .i64 x7, .int .i64 x8, .int .i64 x9]] w fun e w' => e = .returned (.int .i64 (rqCode x0 x1 x2 x3 x4 x5 x6 x7 x8 x9)) ∧ Below w.heap.size w w' := by
  have p0 := fun w => Lib.hid (place_calls x0 x1 w)
  have p1 := fun w => Lib.hid (place_calls x2 x3 w)
  have p2 := fun w => Lib.hid (window_calls x4 x5 w)
  have p3 := fun w => Lib.hid (window_calls x6 x7 w)
  have p4 := fun w => Lib.hid (within_below x8 1 1000 w)
  have p5 := fun w => Lib.hid (within_below x9 0 1000 w)
  unfold rqCode
  generalize plB x0 x1 = b0 at p0 ⊢
  generalize plB x2 x3 = b1 at p1 ⊢
  generalize wiB x4 x5 = b2 at p2 ⊢
  generalize wiB x6 x7 = b3 at p3 ⊢
  generalize decide (1 ≤ x8 ∧ x8 ≤ 1000) = b4 at p4 ⊢
  generalize decide (0 ≤ x9 ∧ x9 ≤ 1000) = b5 at p5 ⊢
  cases b0 <;> cases b2 <;> cases b4
  · exact check_fff x0 x1 x2 x3 x4 x5 x6 x7 x8 x9 b1 b3 b5 w p0 p2 p4
  · exact check_fft x0 x1 x2 x3 x4 x5 x6 x7 x8 x9 b1 b3 b5 w p0 p2 p4 p5
  · exact check_ftf x0 x1 x2 x3 x4 x5 x6 x7 x8 x9 b1 b3 b5 w p0 p2 p3 p4
  · exact check_ftt x0 x1 x2 x3 x4 x5 x6 x7 x8 x9 b1 b3 b5 w p0 p2 p3 p4 p5
  · exact check_tff x0 x1 x2 x3 x4 x5 x6 x7 x8 x9 b1 b3 b5 w p0 p1 p2 p4
  · exact check_tft x0 x1 x2 x3 x4 x5 x6 x7 x8 x9 b1 b3 b5 w p0 p1 p2 p4 p5
  · exact check_ttf x0 x1 x2 x3 x4 x5 x6 x7 x8 x9 b1 b3 b5 w p0 p1 p2 p3 p4
  · exact check_ttt x0 x1 x2 x3 x4 x5 x6 x7 x8 x9 b1 b3 b5 w p0 p1 p2 p3 p4 p5
end Go.Proofs.Ytpbmeeogledmdae
namespace Go.Proofs.Ytpbmeeogledmdae
open Go.RowKit

end Go.Proofs.Ytpbmeeogledmdae
