/-
  Layers 2 to 4: place.May, window.May, order.Check, and the reference's.
-/
import Derived.Test.YtcipdimnbleljaaBlk
namespace Go.Proofs.Ytcipdimnbleljaa
open Go.RowKit

/-- a place on the grid -/
def plB (x y : Int) : Bool := decide (0 ≤ x ∧ x < 1024 ∧ 0 ≤ y ∧ y < 1024)
/-- a window that may be -/
def wiB (e l : Int) : Bool := decide (0 ≤ e ∧ e ≤ l ∧ l ≤ 1048576)

theorem on_calls (n : Int) (w : World) :
    Calls Try.prog 63 #[.int .i64 n] w fun e w' => e = .returned (.bool (decide (0 ≤ n ∧ n < 1024))) ∧ w = w' := by
  by_cases h0 : 0 ≤ n
  · by_cases h1 : n < 1024
    · rw [decide_eq_true (⟨h0, h1⟩ : 0 ≤ n ∧ n < 1024)]
      go_enter Try.func63, Try.ntmps63
      go_wp2
      go_ret
      exact ⟨rfl, rfl⟩
    · rw [decide_eq_false (show ¬ (0 ≤ n ∧ n < 1024) by omega)]
      go_enter Try.func63, Try.ntmps63
      go_wp2
      go_ret
      exact ⟨rfl, rfl⟩
  · rw [decide_eq_false (show ¬ (0 ≤ n ∧ n < 1024) by omega)]
    go_enter Try.func63, Try.ntmps63
    go_wp2
    go_ret
    exact ⟨rfl, rfl⟩

theorem plB_eq (x y : Int) : plB x y = (decide (0 ≤ x ∧ x < 1024) && decide (0 ≤ y ∧ y < 1024)) := by
  unfold plB
  rw [Bool.eq_iff_iff]
  simp
  omega
theorem place_calls (x y : Int) (w : World) :
    Calls Try.prog 55 #[.agg #[.int .i64 x, .int .i64 y]] w fun e w' => e = .returned (.bool (plB x y)) ∧ Below w.heap.size w w' := by
  have hb := (Below.refl w.heap.size w).alloc (Nat.le_refl _) (.cells #[.int .i64 x, .int .i64 y] 31)
  rw [plB_eq]
  have cx := fun w => Lib.hid (on_calls x w)
  have cy := fun w => Lib.hid (on_calls y w)
  generalize decide (0 ≤ x ∧ x < 1024) = p at cx ⊢
  generalize decide (0 ≤ y ∧ y < 1024) = q at cy ⊢
  go_enter Try.func55, Try.ntmps55
  go_wp2_with fail
  refine (cx _).out.mono ?_
  rintro e w' ⟨rfl, rfl⟩
  cases p
  · go_wp2
    go_ret
    exact ⟨rfl, hb⟩
  · go_wp2_with fail
    refine (cy _).out.mono ?_
    rintro e w' ⟨rfl, rfl⟩
    go_wp2
    go_ret
    exact ⟨rfl, hb⟩
theorem span_calls (x y : Int) (w : World) :
    Calls Try.prog 64 #[.agg #[.int .i64 x, .int .i64 y]] w fun e w' => e = .returned (.bool (wiB x y)) ∧ Below w.heap.size w w' := by
  have hb := (Below.refl w.heap.size w).alloc (Nat.le_refl _) (.cells #[.int .i64 x, .int .i64 y] 131)
  by_cases h : 0 ≤ x ∧ x ≤ y ∧ y ≤ 1048576
  · obtain ⟨h0, h1, h2⟩ := h
    have e : wiB x y = true := decide_eq_true ⟨h0, h1, h2⟩
    rw [e]
    clear e
    go_enter Try.func64, Try.ntmps64
    go_wp2
    go_ret
    exact ⟨rfl, hb⟩
  · have e : wiB x y = false := decide_eq_false h
    rw [e]
    clear e
    by_cases h0 : 0 ≤ x
    · by_cases h1 : x ≤ y
      · have h2 : ¬ y ≤ 1048576 := by omega
        clear h
        go_enter Try.func64, Try.ntmps64
        go_wp2
        go_ret
        exact ⟨rfl, hb⟩
      · clear h
        go_enter Try.func64, Try.ntmps64
        go_wp2
        go_ret
        exact ⟨rfl, hb⟩
    · clear h
      go_enter Try.func64, Try.ntmps64
      go_wp2
      go_ret
      exact ⟨rfl, hb⟩
set_option maxRecDepth 100000 in
theorem window_calls (x y : Int) (w : World) :
    Calls Try.prog 56 #[.agg #[.int .i64 x, .int .i64 y]] w fun e w' => e = .returned (.bool (wiB x y)) ∧ Below w.heap.size w w' := by
  have hb := (Below.refl w.heap.size w).alloc (Nat.le_refl _) (.cells #[.int .i64 x, .int .i64 y] 33)
  have hf : ∀ w, (Instr.field 133 (.agg #[.int .i64 x, .int .i64 y, .int .i64 0]) 0).run Try.prog w = .ok (.agg #[.int .i64 x, .int .i64 y]) w := fun w => by kernel_rfl
  go_enter Try.func56, Try.ntmps56
  go_wp2_with fail
  refine (span_calls x y _).mono ?_
  rintro e w1 ⟨rfl, hb1⟩
  go_wp2
  go_ret
  exact ⟨rfl, bt hb hb1⟩
theorem order_within (n a b : Int) (w : World) :
    Calls Try.prog 57 #[.int .i64 n, .int .i64 a, .int .i64 b] w fun e w' => e = .returned (.bool (decide (a ≤ n ∧ n ≤ b))) ∧ w = w' := by
  by_cases h0 : a ≤ n
  · by_cases h1 : n ≤ b
    · rw [decide_eq_true (⟨h0, h1⟩ : a ≤ n ∧ n ≤ b)]
      go_enter Try.func57, Try.ntmps57
      go_wp2
      go_ret
      exact ⟨rfl, rfl⟩
    · rw [decide_eq_false (show ¬ (a ≤ n ∧ n ≤ b) by omega)]
      go_enter Try.func57, Try.ntmps57
      go_wp2
      go_ret
      exact ⟨rfl, rfl⟩
  · rw [decide_eq_false (show ¬ (a ≤ n ∧ n ≤ b) by omega)]
    go_enter Try.func57, Try.ntmps57
    go_wp2
    go_ret
    exact ⟨rfl, rfl⟩

/-- the first code whose need does not hold -/
def firstC (b1 b2 b3 : Bool) : Int := if !b1 then 4 else if !b2 then 5 else if !b3 then 6 else 0
theorem first_calls (B : Nat) (b1 b2 b3 : Bool) (w : World) (hB : Blk w B #[.bool b1, .int .i64 4, .bool b2, .int .i64 5, .bool b3, .int .i64 6] 122) :
    Calls Try.prog 54 #[.slice (some ⟨B, 0, none⟩) 3 3] w fun e w' => e = .returned (.int .i64 (firstC b1 b2 b3)) ∧ Below w.heap.size w w' := by
  have hbl := hB.lt
  have g1 : ∀ o1 : Obj, Below w.heap.size w (w.alloc o1) := fun o1 => (Below.refl _ _).alloc (Nat.le_refl _) o1
  have g2 : ∀ o1 o2 : Obj, Below w.heap.size w ((w.alloc o1).alloc o2) := fun o1 o2 => (g1 o1).alloc (by simp) o2
  have g3 : ∀ o1 o2 o3 : Obj, Below w.heap.size w (((w.alloc o1).alloc o2).alloc o3) := fun o1 o2 o3 => (g2 o1 o2).alloc (g2 o1 o2).size o3
  have c0 := hB.cell (i := 0) rfl
  have c1 := hB.cell (i := 1) rfl
  have c2 := hB.cell (i := 2) rfl
  have c3 := hB.cell (i := 3) rfl
  have c4 := hB.cell (i := 4) rfl
  have c5 := hB.cell (i := 5) rfl
  cases b1
  · go_enter Try.func54, Try.ntmps54
    go_wp2_with fail
    refine wp_loop_rounds 1 ?_
    rw [rounds_succ]; go_wp2_with fail
    go_ret
    exact ⟨rfl, g1 _⟩
  · cases b2
    · go_enter Try.func54, Try.ntmps54
      go_wp2_with fail
      refine wp_loop_rounds 2 ?_
      rw [rounds_succ]; go_wp2_with fail
      rw [rounds_succ]; go_wp2_with fail
      go_ret
      exact ⟨rfl, g2 _ _⟩
    · cases b3
      · go_enter Try.func54, Try.ntmps54
        go_wp2_with fail
        refine wp_loop_rounds 3 ?_
        rw [rounds_succ]; go_wp2_with fail
        rw [rounds_succ]; go_wp2_with fail
        rw [rounds_succ]; go_wp2_with fail
        go_ret
        exact ⟨rfl, g3 _ _ _⟩
      · go_enter Try.func54, Try.ntmps54
        go_wp2_with fail
        refine wp_loop_rounds 4 ?_
        rw [rounds_succ]; go_wp2_with fail
        rw [rounds_succ]; go_wp2_with fail
        rw [rounds_succ]; go_wp2_with fail
        rw [rounds_succ]; go_wp2_with fail
        go_ret
        exact ⟨rfl, g3 _ _ _⟩

/-- a request's numbers may be: the first error -/
def rqCode (x0 x1 x2 x3 x4 x5 x6 x7 x8 x9 : Int) : Int := firstC (plB x0 x1 && plB x2 x3) (wiB x4 x5 && wiB x6 x7) (decide (1 ≤ x8 ∧ x8 ≤ 1000) && decide (0 ≤ x9 ∧ x9 ≤ 1000))

end Go.Proofs.Ytcipdimnbleljaa
