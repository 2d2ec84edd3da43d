/-
  The document's side of layer 18: what may be, and what a kind has alone.
-/
import Derived.Test.YtcipdimnbleljaaDe
import Derived.Test.YtcipdimnbleljaaSame
namespace Go.Proofs.Ytcipdimnbleljaa
open Go.RowKit
open Extern.Stop (cell)

theorem carr_same (n : Int) (w : World) : Calls Try.prog 49 #[.int .i64 n] w fun e w' => e = .returned (.bool (inB n 8)) ∧ w = w' := by
  unfold inB
  by_cases h0 : 0 ≤ n
  · by_cases h1 : n < 8
    · rw [decide_eq_true (⟨h0, h1⟩ : 0 ≤ n ∧ n < 8)]
      go_enter Try.func49, Try.ntmps49
      go_wp2
      go_ret
      exact ⟨rfl, rfl⟩
    · rw [decide_eq_false (fun h : 0 ≤ n ∧ n < 8 => h1 h.2)]
      go_enter Try.func49, Try.ntmps49
      go_wp2
      go_ret
      exact ⟨rfl, rfl⟩
  · rw [decide_eq_false (fun h : 0 ≤ n ∧ n < 8 => h0 h.1)]
    go_enter Try.func49, Try.ntmps49
    go_wp2
    go_ret
    exact ⟨rfl, rfl⟩
theorem new_below (w : World) (o : Obj) : Below w.heap.size w (w.alloc o) := (Below.refl _ _).alloc (Nat.le_refl _) o
set_option maxRecDepth 100000 in
theorem mayp_ref (x y : Int) (w : World) : Calls Try.prog 59 #[.agg #[.int .i64 x, .int .i64 y]] w fun e w' => e = .returned (.bool (plB x y)) ∧ Below w.heap.size w w' := by
  obtain ⟨X, HX⟩ : ∃ X, plB x y = X := ⟨_, rfl⟩
  rw [HX]
  unfold plB at HX
  by_cases h0 : 0 ≤ x
  · by_cases h1 : x < 1024
    · by_cases h2 : 0 ≤ y
      · by_cases h3 : y < 1024
        · obtain rfl : X = true := by rw [← HX]; simp; omega
          go_enter Try.func59, Try.ntmps59
          go_wp2
          go_ret
          exact ⟨rfl, new_below _ _⟩
        · obtain rfl : X = false := by rw [← HX]; simp; omega
          go_enter Try.func59, Try.ntmps59
          go_wp2
          go_ret
          exact ⟨rfl, new_below _ _⟩
      · obtain rfl : X = false := by rw [← HX]; simp; omega
        go_enter Try.func59, Try.ntmps59
        go_wp2
        go_ret
        exact ⟨rfl, new_below _ _⟩
    · obtain rfl : X = false := by rw [← HX]; simp; omega
      go_enter Try.func59, Try.ntmps59
      go_wp2
      go_ret
      exact ⟨rfl, new_below _ _⟩
  · obtain rfl : X = false := by rw [← HX]; simp; omega
    go_enter Try.func59, Try.ntmps59
    go_wp2
    go_ret
    exact ⟨rfl, new_below _ _⟩
set_option maxRecDepth 100000 in
theorem win_ref (x y : Int) (w : World) : Calls Try.prog 60 #[.agg #[.int .i64 x, .int .i64 y]] w fun e w' => e = .returned (.bool (wiB x y)) ∧ Below w.heap.size w w' := by
  obtain ⟨X, HX⟩ : ∃ X, wiB x y = X := ⟨_, rfl⟩
  rw [HX]
  unfold wiB at HX
  by_cases h0 : 0 ≤ x
  · by_cases h1 : x ≤ y
    · by_cases h3 : y ≤ 1048576
      · obtain rfl : X = true := by rw [← HX]; simp; omega
        go_enter Try.func60, Try.ntmps60
        go_wp2
        go_ret
        exact ⟨rfl, new_below _ _⟩
      · obtain rfl : X = false := by rw [← HX]; simp; omega
        go_enter Try.func60, Try.ntmps60
        go_wp2
        go_ret
        exact ⟨rfl, new_below _ _⟩
    · obtain rfl : X = false := by rw [← HX]; simp; omega
      go_enter Try.func60, Try.ntmps60
      go_wp2
      go_ret
      exact ⟨rfl, new_below _ _⟩
  · obtain rfl : X = false := by rw [← HX]; simp; omega
    go_enter Try.func60, Try.ntmps60
    go_wp2
    go_ret
    exact ⟨rfl, new_below _ _⟩
set_option maxRecDepth 100000 in
theorem out_ref (s n p : Int) (w : World) : Calls Try.prog 50 #[.agg #[.int .i64 s, .int .i64 n, .int .u64 p]] w fun e w' => e = .returned (.bool (toldB s n p)) ∧ Below w.heap.size w w' := by
  have hc := Lib.hid (fun w => carr_same n w)
  obtain ⟨X, HX⟩ : ∃ X, toldB s n p = X := ⟨_, rfl⟩
  rw [HX]
  unfold toldB at HX
  by_cases h3 : s = 3
  · subst h3
    rw [if_neg (by omega)] at HX
    by_cases h1 : n = -1
    · by_cases h2 : p = 0
      · obtain rfl : X = true := by rw [← HX]; simp [h1, h2]
        subst h1 h2
        go_enter Try.func50, Try.ntmps50
        go_wp2
        go_ret
        exact ⟨rfl, new_below _ _⟩
      · obtain rfl : X = false := by rw [← HX]; simp [h2]
        go_enter Try.func50, Try.ntmps50
        go_wp2
        go_ret
        exact ⟨by show Ending.returned (.bool (p == 0)) = _; rw [beq_eq_false_iff_ne.2 h2], new_below _ _⟩
    · obtain rfl : X = false := by rw [← HX]; simp [h1]
      go_enter Try.func50, Try.ntmps50
      go_wp2
      go_ret
      exact ⟨rfl, new_below _ _⟩
  · have b3 : (s == 3) = false := beq_eq_false_iff_ne.2 h3
    by_cases h24 : s = 2 ∨ s = 4
    · rw [if_pos h24] at HX
      have HX' := Lib.hid HX
      clear HX
      have h24' := Lib.hid h24
      clear h24
      cases hb : inB n 8 with
      | false =>
        rw [hb] at hc
        obtain rfl : X = false := by rw [← HX'.out, hb]; rfl
        rcases h24'.out with rfl | rfl
        · go_enter Try.func50, Try.ntmps50
          go_wp2_with fail
          refine (hc.out _).mono ?_
          rintro e w1 ⟨rfl, rfl⟩
          go_wp2_with fail
          go_ret
          exact ⟨rfl, new_below _ _⟩
        · go_enter Try.func50, Try.ntmps50
          go_wp2_with fail
          refine (hc.out _).mono ?_
          rintro e w1 ⟨rfl, rfl⟩
          go_wp2_with fail
          go_ret
          exact ⟨rfl, new_below _ _⟩
      | true =>
        rw [hb] at hc
        by_cases hp : p ≤ 16777216
        · obtain rfl : X = true := by rw [← HX'.out, hb]; simp [hp]
          rcases h24'.out with rfl | rfl
          · go_enter Try.func50, Try.ntmps50
            go_wp2_with fail
            refine (hc.out _).mono ?_
            rintro e w1 ⟨rfl, rfl⟩
            go_wp2_with fail
            go_ret
            exact ⟨rfl, new_below _ _⟩
          · go_enter Try.func50, Try.ntmps50
            go_wp2_with fail
            refine (hc.out _).mono ?_
            rintro e w1 ⟨rfl, rfl⟩
            go_wp2_with fail
            go_ret
            exact ⟨rfl, new_below _ _⟩
        · obtain rfl : X = false := by rw [← HX'.out, hb]; simp; omega
          rcases h24'.out with rfl | rfl
          · go_enter Try.func50, Try.ntmps50
            go_wp2_with fail
            refine (hc.out _).mono ?_
            rintro e w1 ⟨rfl, rfl⟩
            go_wp2_with fail
            go_ret
            exact ⟨by show Ending.returned (.bool (decide (p ≤ 16777216))) = _; rw [decide_eq_false (Int.not_le.2 hp)], new_below _ _⟩
          · go_enter Try.func50, Try.ntmps50
            go_wp2_with fail
            refine (hc.out _).mono ?_
            rintro e w1 ⟨rfl, rfl⟩
            go_wp2_with fail
            go_ret
            exact ⟨by show Ending.returned (.bool (decide (p ≤ 16777216))) = _; rw [decide_eq_false (Int.not_le.2 hp)], new_below _ _⟩
    · rw [if_neg h24] at HX
      obtain rfl : X = false := by rw [← HX]; simp; omega
      have b2 : (s == 2) = false := beq_eq_false_iff_ne.2 (fun h => h24 (.inl h))
      have b4 : (s == 4) = false := beq_eq_false_iff_ne.2 (fun h => h24 (.inr h))
      go_enter Try.func50, Try.ntmps50
      go_wp2_with fail
      go_ret
      exact ⟨rfl, new_below _ _⟩

set_option maxHeartbeats 2000000 in
set_option maxRecDepth 100000 in
theorem chk_ref (x0 x1 x2 x3 x4 x5 x6 x7 x8 x9 : Int) (w : World) :
    Calls Try.prog 48 #[.agg #[.int .i64 x0, .int .i64 x1, .int .i64 x2, .int .i64 x3, .int .i64 x4, .int .i64 x5, .int .i64 x6, .int .i64 x7, .int .i64 x8, .int .i64 x9]] w fun e w' => e = .returned (.int .i64 (rqCode x0 x1 x2 x3 x4 x5 x6 x7 x8 x9)) ∧ Below w.heap.size w w' := by
  have hp := Lib.hid (fun w => mayp_ref x0 x1 w)
  have hq := Lib.hid (fun w => mayp_ref x2 x3 w)
  have hu := Lib.hid (fun w => win_ref x4 x5 w)
  have hv := Lib.hid (fun w => win_ref x6 x7 w)
  obtain ⟨X, HX⟩ : ∃ X, rqCode x0 x1 x2 x3 x4 x5 x6 x7 x8 x9 = X := ⟨_, rfl⟩
  rw [HX]
  unfold rqCode firstC at HX
  generalize plB x0 x1 = b1 at hp HX
  generalize plB x2 x3 = b2 at hq HX
  generalize wiB x4 x5 = b3 at hu HX
  generalize wiB x6 x7 = b4 at hv HX
  have HX' := Lib.hid HX
  clear HX
  obtain ⟨R, hR⟩ : ∃ R : Array Value, #[.int .i64 x0, .int .i64 x1, .int .i64 x2, .int .i64 x3, .int .i64 x4, .int .i64 x5, .int .i64 x6, .int .i64 x7, .int .i64 x8, .int .i64 x9] = R := ⟨_, rfl⟩
  have hB := Blk.new w R 35
  have h0 := Lib.hid (fun wx (h : Blk wx w.heap.size R 35) => (show (loadVar 31 ⟨w.heap.size, 0, none⟩).run Try.prog wx = .ok (.agg #[.int .i64 x0, .int .i64 x1]) wx from by
    have := load_part (P := Try.prog) wx w.heap.size R 35 h 0 2 (by rw [← hR]; simp) 31 _ Try.underlying31 rfl (by kernel_rfl)
    rw [this, ← hR]; rfl))
  have h2 := Lib.hid (fun wx (h : Blk wx w.heap.size R 35) => (show (loadVar 31 ⟨w.heap.size, 2, none⟩).run Try.prog wx = .ok (.agg #[.int .i64 x2, .int .i64 x3]) wx from by
    have := load_part (P := Try.prog) wx w.heap.size R 35 h 2 2 (by rw [← hR]; simp) 31 _ Try.underlying31 rfl (by kernel_rfl)
    rw [this, ← hR]; rfl))
  have h4 := Lib.hid (fun wx (h : Blk wx w.heap.size R 35) => (show (loadVar 33 ⟨w.heap.size, 4, none⟩).run Try.prog wx = .ok (.agg #[.int .i64 x4, .int .i64 x5]) wx from by
    have := load_part (P := Try.prog) wx w.heap.size R 35 h 4 2 (by rw [← hR]; simp) 33 _ Try.underlying33 rfl (by kernel_rfl)
    rw [this, ← hR]; rfl))
  have h6 := Lib.hid (fun wx (h : Blk wx w.heap.size R 35) => (show (loadVar 33 ⟨w.heap.size, 6, none⟩).run Try.prog wx = .ok (.agg #[.int .i64 x6, .int .i64 x7]) wx from by
    have := load_part (P := Try.prog) wx w.heap.size R 35 h 6 2 (by rw [← hR]; simp) 33 _ Try.underlying33 rfl (by kernel_rfl)
    rw [this, ← hR]; rfl))
  have h8 := Lib.hid (fun wx (h : Blk wx w.heap.size R 35) => (⟨h.cell (i := 8) (by rw [← hR]; rfl), h.cell (i := 9) (by rw [← hR]; rfl)⟩ : wx.cell? ⟨w.heap.size, 8, none⟩ = some (.int .i64 x8) ∧ wx.cell? ⟨w.heap.size, 9, none⟩ = some (.int .i64 x9)))
  rw [hR]
  replace hR := Lib.hid hR
  replace hB := Lib.hid hB
  go_enter Try.func48, Try.ntmps48
  go_upto_region 1 with fail
  refine wp_world (fun wx => Blk wx w.heap.size R 35 ∧ Below w.heap.size w wx) ⟨hB.out, new_below _ _⟩ ?_
  rintro w1 ⟨B1, l1⟩
  replace B1 := Lib.hid B1
  clear hB
  go_wp2_with (refine wpList_load_v rfl 31 _ rfl ⟨w.heap.size, 0, none⟩ rfl _ (h0.out _ B1.out) ?_)
  refine (hp.out _).mono ?_
  rintro e w2 ⟨rfl, c2⟩
  have B2 := Lib.hid (B1.out.mod ((Mod.refl (fun _ => False) _).after c2) (fun h => h))
  have l2 := l1.trans (c2.mono l1.size)
  clear B1 l1
  cases b1
  · obtain rfl : X = 4 := by rw [← HX'.out]; rfl
    go_wp2_with fail
    go_ret
    exact ⟨rfl, l2⟩
  go_wp2_with (refine wpList_load_v rfl 31 _ rfl ⟨w.heap.size, 2, none⟩ rfl _ (h2.out _ B2.out) ?_)
  refine (hq.out _).mono ?_
  rintro e w3 ⟨rfl, c3⟩
  have B3 := Lib.hid (B2.out.mod ((Mod.refl (fun _ => False) _).after c3) (fun h => h))
  have l3 := l2.trans (c3.mono l2.size)
  clear B2 l2
  cases b2
  · obtain rfl : X = 4 := by rw [← HX'.out]; rfl
    go_wp2_with fail
    go_ret
    exact ⟨rfl, l3⟩
  go_wp2_with (refine wpList_load_v rfl 33 _ rfl ⟨w.heap.size, 4, none⟩ rfl _ (h4.out _ B3.out) ?_)
  refine (hu.out _).mono ?_
  rintro e w4 ⟨rfl, c4⟩
  have B4 := Lib.hid (B3.out.mod ((Mod.refl (fun _ => False) _).after c4) (fun h => h))
  have l4 := l3.trans (c4.mono l3.size)
  clear B3 l3
  cases b3
  · obtain rfl : X = 5 := by rw [← HX'.out]; rfl
    go_wp2_with fail
    go_ret
    exact ⟨rfl, l4⟩
  go_wp2_with (refine wpList_load_v rfl 33 _ rfl ⟨w.heap.size, 6, none⟩ rfl _ (h6.out _ B4.out) ?_)
  refine (hv.out _).mono ?_
  rintro e w5 ⟨rfl, c5⟩
  have B5 := B4.out.mod ((Mod.refl (fun _ => False) _).after c5) (fun h => h)
  have l5 := l4.trans (c5.mono l4.size)
  clear B4 l4
  cases b4
  · obtain rfl : X = 5 := by rw [← HX'.out]; rfl
    go_wp2_with fail
    go_ret
    exact ⟨rfl, l5⟩
  obtain ⟨c8, c9⟩ := h8.out _ B5
  by_cases q1 : 1 ≤ x8
  · by_cases q2 : x8 ≤ 1000
    · by_cases q3 : 0 ≤ x9
      · by_cases q4 : x9 ≤ 1000
        · obtain rfl : X = 0 := by rw [← HX'.out]; simp [q1, q2, q3, q4]
          go_wp2_with fail
          go_ret
          exact ⟨rfl, l5⟩
        · obtain rfl : X = 6 := by rw [← HX'.out]; simp [q1, q2, q3, q4]
          go_wp2_with fail
          go_ret
          exact ⟨rfl, l5⟩
      · obtain rfl : X = 6 := by rw [← HX'.out]; simp [q1, q2, q3]
        go_wp2_with fail
        go_ret
        exact ⟨rfl, l5⟩
    · obtain rfl : X = 6 := by rw [← HX'.out]; simp [q1, q2]
      go_wp2_with fail
      go_ret
      exact ⟨rfl, l5⟩
  · obtain rfl : X = 6 := by rw [← HX'.out]; simp [q1]
    go_wp2_with fail
    go_ret
    exact ⟨rfl, l5⟩

/-- a message with what its kind has alone -/
def bareM (m : MV) : MV :=
  if m.kind = 1 then { zeroM with kind := m.kind, round := m.round, req := m.req, reserve := m.reserve, rq := m.rq }
  else if m.kind = 2 then { zeroM with kind := m.kind, round := m.round, carrier := m.carrier, dg := m.dg }
  else if m.kind = 3 then { zeroM with kind := m.kind, round := m.round, ms := m.ms, p := m.p, cap := m.cap }
  else if m.kind = 4 then { zeroM with kind := m.kind, round := m.round, carrier := m.carrier, bid := m.bid, nonce := m.nonce }
  else if m.kind = 5 then { zeroM with kind := m.kind, round := m.round, state := m.state, winner := m.winner, price := m.price }
  else { zeroM with kind := m.kind, round := m.round }
/-- what the document looks at behind it -/
def kindB (m : MV) : Bool :=
  if m.kind = 1 then inB m.req 64 && inB m.reserve 16777217 && ckB m.rq
  else if m.kind = 2 then inB m.carrier 8
  else if m.kind = 4 then inB m.carrier 8 && decide (m.bid ≤ 4294967296)
  else if m.kind = 5 then toldB m.state m.winner m.price
  else riseB m.ms
theorem rqZ_iff (rq : Nat → Int) : ((List.range 10).all fun i => rq i == 0) = rqZ rq := rfl
theorem may_ref_plain (m : MV) : mayB m = (decide (1 ≤ m.kind ∧ m.kind ≤ 5) && (inB m.round 16 && (alB m (bareM m) && kindB m))) := by
  have hz : ∀ f : Nat → Int, ((List.range 10).all fun i => f i == 0) = rqZ f := fun f => rfl
  have hd0 : dg0 = List.replicate 32 0 := rfl
  by_cases h1 : m.kind = 1
  · simp only [mayB, kindB, bareM, h1, if_true, alB, zeroM, beq_self_eq_true, Bool.true_and, hd0, outZ, dgZ]
    rw [Bool.eq_iff_iff]
    simp only [Bool.and_eq_true, decide_eq_true_eq, beq_iff_eq]
    constructor <;> intro h <;> simp_all
  by_cases h2 : m.kind = 2
  · simp only [mayB, kindB, bareM, h2, if_true, if_neg (show ¬ (2 : Int) = 1 by decide), alB, zeroM, beq_self_eq_true, Bool.true_and, hz, hd0, outZ, dgZ]
    rw [Bool.eq_iff_iff]
    simp only [Bool.and_eq_true, decide_eq_true_eq, beq_iff_eq]
    constructor <;> intro h <;> simp_all
  by_cases h3 : m.kind = 3
  · simp only [mayB, kindB, bareM, h3, if_true, if_neg (show ¬ (3 : Int) = 1 by decide), if_neg (show ¬ (3 : Int) = 2 by decide), if_neg (show ¬ (3 : Int) = 4 by decide), if_neg (show ¬ (3 : Int) = 5 by decide), alB, zeroM, beq_self_eq_true, Bool.true_and, hz, hd0, outZ, dgZ]
    rw [Bool.eq_iff_iff]
    simp only [Bool.and_eq_true, decide_eq_true_eq, beq_iff_eq]
    constructor <;> intro h <;> simp_all
  by_cases h4 : m.kind = 4
  · simp only [mayB, kindB, bareM, h4, if_true, if_neg (show ¬ (4 : Int) = 1 by decide), if_neg (show ¬ (4 : Int) = 2 by decide), if_neg (show ¬ (4 : Int) = 3 by decide), alB, zeroM, beq_self_eq_true, Bool.true_and, hz, hd0, outZ, dgZ]
    rw [Bool.eq_iff_iff]
    simp only [Bool.and_eq_true, decide_eq_true_eq, beq_iff_eq]
    constructor <;> intro h <;> simp_all
  by_cases h5 : m.kind = 5
  · simp only [mayB, kindB, bareM, h5, if_true, if_neg (show ¬ (5 : Int) = 1 by decide), if_neg (show ¬ (5 : Int) = 2 by decide), if_neg (show ¬ (5 : Int) = 3 by decide), if_neg (show ¬ (5 : Int) = 4 by decide), alB, zeroM, beq_self_eq_true, Bool.true_and, hz, hd0, outZ, dgZ]
    rw [Bool.eq_iff_iff]
    simp only [Bool.and_eq_true, decide_eq_true_eq, beq_iff_eq]
    constructor <;> intro h <;> simp_all
  · have e : decide (1 ≤ m.kind ∧ m.kind ≤ 5) = false := decide_eq_false (by omega)
    rw [e]
    simp [mayB, h1, h2, h3, h4, h5]
end Go.Proofs.Ytcipdimnbleljaa
