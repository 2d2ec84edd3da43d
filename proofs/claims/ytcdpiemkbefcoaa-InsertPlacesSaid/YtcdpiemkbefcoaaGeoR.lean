/-
  The document's layers 2 to 4: Dist, Wait, Vehicle.
-/
import Derived.Test.YtcdpiemkbefcoaaWt
namespace Go.Proofs.Ytcdpiemkbefcoaa
open Go.RowKit

theorem vehicle_ref (x y cp st en : Int) (w : World) :
    Calls Try.prog 78 #[.agg #[.int .i64 x, .int .i64 y, .int .i64 cp, .int .i64 st, .int .i64 en]] w fun e w' => e = .returned (.int .i64 (vehCode x y cp st en)) ∧ Below w.heap.size w w' := by
  have hp := Lib.hid (fun w => mayp_ref x y w)
  have hX : vehCode x y cp st en = firstV (plB x y) (decide (1 ≤ cp ∧ cp ≤ 100000) && (decide (0 ≤ st ∧ st ≤ en) && decide (0 ≤ en ∧ en ≤ 1048576))) := rfl
  generalize vehCode x y cp st en = X at hX ⊢
  generalize plB x y = b at hp hX
  obtain ⟨q, hq⟩ : ∃ q, (decide (1 ≤ cp ∧ cp ≤ 100000) && (decide (0 ≤ st ∧ st ≤ en) && decide (0 ≤ en ∧ en ≤ 1048576))) = q := ⟨_, rfl⟩
  rw [hq] at hX
  have hq1 : q = true ↔ (1 ≤ cp ∧ cp ≤ 100000) ∧ (0 ≤ st ∧ st ≤ en) ∧ (0 ≤ en ∧ en ≤ 1048576) := by rw [← hq]; simp only [Bool.and_eq_true, decide_eq_true_eq]
  replace hq1 := Lib.hid hq1
  clear hq
  replace hX := Lib.hid hX
  obtain ⟨R, hR⟩ : ∃ R : Array Value, #[.int .i64 x, .int .i64 y, .int .i64 cp, .int .i64 st, .int .i64 en] = R := ⟨_, rfl⟩
  have g2 : R[2]? = some (.int .i64 cp) := by rw [← hR]; rfl
  have g3 : R[3]? = some (.int .i64 st) := by rw [← hR]; rfl
  have g4 : R[4]? = some (.int .i64 en) := by rw [← hR]; rfl
  have h0 := Lib.hid (fun wx (h : Blk wx w.heap.size R 28) => (show (loadVar 26 ⟨w.heap.size, 0, none⟩).run Try.prog wx = .ok (.agg #[.int .i64 x, .int .i64 y]) wx from by
    have := load_part (P := Try.prog) wx w.heap.size R 28 h 0 2 (by rw [← hR]; simp) 26 _ Try.underlying26 rfl (by kernel_rfl)
    rw [this, ← hR]; rfl))
  rw [hR]
  clear hR
  go_enter Try.func78, Try.ntmps78
  go_upto_region 1 with fail
  refine wp_world (fun wx => Blk wx w.heap.size R 28 ∧ Below w.heap.size w wx) ⟨Blk.new _ _ _, new_below _ _⟩ ?_
  rintro w1 ⟨B1, l1⟩
  replace B1 := Lib.hid B1
  go_wp2_with (refine wpList_load_v rfl 26 _ rfl ⟨w.heap.size, 0, none⟩ rfl _ (h0.out _ B1.out) ?_)
  refine (hp.out _).mono ?_
  rintro e w2 ⟨rfl, hb⟩
  have B2 := B1.out.mod ((Mod.refl (fun _ => False) _).after hb) (fun h => h)
  have l2 := l1.trans (hb.mono l1.size)
  have k2 := B2.cell g2
  have k3 := B2.cell g3
  have k4 := B2.cell g4
  clear B1 l1 hb h0 hp
  cases b with
  | false =>
    obtain rfl : X = 4 := hX.out
    go_wp2_with fail
    go_ret
    exact ⟨rfl, l2⟩
  | true =>
    have h7 : Hid (¬ (1 ≤ cp ∧ cp ≤ 100000 ∧ 0 ≤ st ∧ st ≤ en ∧ en ≤ 1048576) → X = 7) := Lib.hid (fun h => by
      have hq : q = false := by
        cases q with
        | false => rfl
        | true => exact absurd (hq1.out.1 rfl) (by omega)
      rw [hX.out, hq]; rfl)
    by_cases c1 : cp < 1
    · obtain rfl : X = 7 := h7.out (by omega)
      go_wp2_with fail
      go_ret
      exact ⟨rfl, l2⟩
    by_cases c2 : cp > 100000
    · obtain rfl : X = 7 := h7.out (by omega)
      go_wp2_with fail
      go_ret
      exact ⟨rfl, l2⟩
    by_cases c3 : st < 0
    · obtain rfl : X = 7 := h7.out (by omega)
      go_wp2_with fail
      go_ret
      exact ⟨rfl, l2⟩
    by_cases c4 : st > en
    · obtain rfl : X = 7 := h7.out (by omega)
      go_wp2_with fail
      go_ret
      exact ⟨rfl, l2⟩
    by_cases c5 : en > 1048576
    · obtain rfl : X = 7 := h7.out (by omega)
      go_wp2_with fail
      go_ret
      exact ⟨rfl, l2⟩
    obtain rfl : X = 0 := by rw [hX.out, hq1.out.2 (by omega)]; rfl
    go_wp2_with fail
    go_ret
    exact ⟨rfl, l2⟩

theorem apart_ref (a b : Int) (w : World) (ha : 0 ≤ a ∧ a < 1024) (hb : 0 ≤ b ∧ b < 1024) :
    Calls Try.prog 99 #[.int .i64 a, .int .i64 b] w fun e w' => e = .returned (.int .i64 (ap1 a b)) ∧ w' = w := by
  have key : ∀ lo hi : Int, lo ≤ hi → 0 ≤ lo → hi < 1024 → (if b < a then b else a) = lo → (if a < b then b else a) = hi → ap1 a b = hi - lo →
      Calls Try.prog 99 #[.int .i64 a, .int .i64 b] w fun e w' => e = .returned (.int .i64 (ap1 a b)) ∧ w' = w := by
    intro lo hi h1 h2 h3 h4 h5 h6
    rw [h6]
    obtain ⟨N, hN⟩ := Int.eq_ofNat_of_zero_le (show 0 ≤ hi - lo by omega)
    clear h6 ha hb
    go_enter Try.func99, Try.ntmps99
    go_wp2_with fail
    go_loopw [5, 6] (fun n i wr => ∃ k : Nat, k ≤ N ∧ n = .int .i64 k ∧ i = .int .i64 (lo + k) ∧ wr = w) (fun _ i _ => (hi - intOf i).toNat)
    case atStart => exact ⟨0, by omega, rfl, by simp, rfl⟩
    case round =>
      obtain ⟨k, hk, rfl, rfl, rfl⟩ := hrel
      by_cases hlt : lo + (k : Int) < hi
      · have s1 : IntKind.i64.wrap ((k : Int) + 1) = (k : Int) + 1 := IntWalk.i64_in _ (by omega)
        have s2 : IntKind.i64.wrap (lo + (k : Int) + 1) = lo + (k : Int) + 1 := IntWalk.i64_in _ (by omega)
        go_wp2_with fail
        go_roundw
        case rel => exact ⟨k + 1, by omega, by simp, by simp; omega, trivial⟩
        case measure => simp [intOf]; omega
      · have hkN : (k : Int) = hi - lo := by omega
        go_wp2_with fail
        go_ret
        exact ⟨rfl, rfl⟩
  by_cases h : a < b
  · exact key a b (by omega) ha.1 hb.2 (if_neg (by omega)) (if_pos h) (if_pos h)
  · by_cases h' : b < a
    · exact key b a (by omega) hb.1 ha.2 (if_pos h') (if_neg h) (if_neg h)
    · exact key a a (by omega) ha.1 ha.2 (if_neg h') (if_neg h) (by rw [show b = a by omega]; exact if_neg (by omega))
set_option maxRecDepth 100000 in
theorem dist_ref (x y u v : Int) (w : World) :
    Calls Try.prog 83 #[.agg #[.int .i64 x, .int .i64 y], .agg #[.int .i64 u, .int .i64 v]] w fun e w' => e = .returned (.int .i64 (dsP x y u v)) ∧ Below w.heap.size w w' := by
  have p0 := Lib.hid (fun w => mayp_ref x y w)
  have p1 := Lib.hid (fun w => mayp_ref u v w)
  have hX : dsP x y u v = if plB x y && plB u v then ap1 x u + ap1 y v else 0 := rfl
  have hr : Hid (plB x y = true → plB u v = true → (0 ≤ ap1 x u ∧ ap1 x u < 1024) ∧ (0 ≤ ap1 y v ∧ ap1 y v < 1024)) := Lib.hid (fun h1 h2 => ⟨ap1_bd (plB_rg h1).1 (plB_rg h2).1, ap1_bd (plB_rg h1).2 (plB_rg h2).2⟩)
  have ha := Lib.hid (fun (h1 : plB x y = true) (h2 : plB u v = true) (w : World) => apart_ref x u w (plB_rg h1).1 (plB_rg h2).1)
  have hb := Lib.hid (fun (h1 : plB x y = true) (h2 : plB u v = true) (w : World) => apart_ref y v w (plB_rg h1).2 (plB_rg h2).2)
  generalize dsP x y u v = X at hX ⊢
  generalize plB x y = b1 at p0 hX hr ha hb
  generalize plB u v = b2 at p1 hX hr ha hb
  have B0 := (Blk.new w #[.int .i64 x, .int .i64 y] 26).alloc (.cells #[.int .i64 u, .int .i64 v] 26)
  have B1 := Blk.new' w (.cells #[.int .i64 x, .int .i64 y] 26) #[.int .i64 u, .int .i64 v] 26
  have hl := ((Below.refl w.heap.size w).alloc (Nat.le_refl _) (.cells #[.int .i64 x, .int .i64 y] 26)).alloc (by simp) (.cells #[.int .i64 u, .int .i64 v] 26)
  go_enter Try.func83, Try.ntmps83
  go_upto_region 1 with fail
  refine wp_world (fun wx => Blk wx w.heap.size #[.int .i64 x, .int .i64 y] 26 ∧ Blk wx (w.heap.size + 1) #[.int .i64 u, .int .i64 v] 26 ∧ Below w.heap.size w wx) ⟨B0, B1, hl⟩ ?_
  rintro w0 ⟨C0, C1, l0⟩
  have k0 := C0.cell (i := 0) rfl
  have k1 := C0.cell (i := 1) rfl
  go_wp2_with fail
  refine (p0.out _).mono ?_
  rintro e w1 ⟨rfl, hb1⟩
  have C0' := C0.mod ((Mod.refl (fun _ => False) _).after hb1) (fun h => h)
  have C1' := C1.mod ((Mod.refl (fun _ => False) _).after hb1) (fun h => h)
  have l1 := l0.trans (hb1.mono l0.size)
  clear k0 k1 C0 C1 l0 hb1 B0 B1 hl
  have k0 := C1'.cell (i := 0) rfl
  have k1 := C1'.cell (i := 1) rfl
  cases b1 with
  | false =>
    obtain rfl : X = 0 := hX
    go_wp2_with fail
    go_ret
    exact ⟨rfl, l1⟩
  | true =>
    go_wp2_with fail
    refine (p1.out _).mono ?_
    rintro e w2 ⟨rfl, hb2⟩
    have C0 := C0'.mod ((Mod.refl (fun _ => False) _).after hb2) (fun h => h)
    have C1 := C1'.mod ((Mod.refl (fun _ => False) _).after hb2) (fun h => h)
    have l2 := l1.trans (hb2.mono l1.size)
    clear k0 k1 C0' C1' l1 hb2
    cases b2 with
    | false =>
      obtain rfl : X = 0 := hX
      go_wp2_with fail
      go_ret
      exact ⟨rfl, l2⟩
    | true =>
      obtain rfl : X = ap1 x u + ap1 y v := hX
      obtain ⟨h1, h2⟩ := hr.out (by simp) (by simp)
      have s1 : IntKind.i64.wrap (ap1 x u + ap1 y v) = ap1 x u + ap1 y v := IntWalk.i64_in _ (by omega)
      have k0 := C0.cell (i := 0) rfl
      have k1 := C0.cell (i := 1) rfl
      have k2 := C1.cell (i := 0) rfl
      have k3 := C1.cell (i := 1) rfl
      go_upto_region 3 with fail
      go_quiet ((first | (go_at_call 99; with_reducible exact Calls.quiet_of_same (ha.out (by simp) (by simp) _)) | (go_at_call 99; with_reducible exact Calls.quiet_of_same (hb.out (by simp) (by simp) _))))
      go_wp2_with fail
      go_ret
      exact ⟨rfl, below_drewN l2 _⟩
theorem may3_ref (x y : Int) (w : World) :
    Calls Try.prog 105 #[.agg #[.int .i64 x, .int .i64 y]] w fun e w' => e = .returned (.bool (wiB x y)) ∧ Below w.heap.size w w' := by
  have hb := new_below w (.cells #[.int .i64 x, .int .i64 y] 45)
  by_cases h : 0 ≤ x ∧ x ≤ y ∧ y ≤ 1048576
  · obtain ⟨h0, h1, h2⟩ := h
    rw [show wiB x y = true from decide_eq_true ⟨h0, h1, h2⟩]
    go_enter Try.func105, Try.ntmps105
    go_wp2
    go_ret
    exact ⟨rfl, hb⟩
  · rw [show wiB x y = false from decide_eq_false h]
    by_cases h0 : 0 ≤ x
    · by_cases h1 : x ≤ y
      · have h2 : ¬ y ≤ 1048576 := by omega
        clear h
        go_enter Try.func105, Try.ntmps105
        go_wp2
        go_ret
        exact ⟨rfl, hb⟩
      · clear h
        go_enter Try.func105, Try.ntmps105
        go_wp2
        go_ret
        exact ⟨rfl, hb⟩
    · clear h
      go_enter Try.func105, Try.ntmps105
      go_wp2
      go_ret
      exact ⟨rfl, hb⟩
def haB (e l t : Int) : Bool := wiB e l && (decide (e ≤ t) && decide (t ≤ l))
theorem has_ref (e l t : Int) (w : World) :
    Calls Try.prog 100 #[.agg #[.int .i64 e, .int .i64 l], .int .i64 t] w fun r w' => r = .returned (.bool (haB e l t)) ∧ Below w.heap.size w w' := by
  have hm := Lib.hid (fun w => may3_ref e l w)
  have hX : haB e l t = (wiB e l && (decide (e ≤ t) && decide (t ≤ l))) := rfl
  generalize haB e l t = X at hX ⊢
  generalize wiB e l = b at hm hX
  have B0 := Blk.new w #[.int .i64 e, .int .i64 l] 45
  have hl := new_below w (.cells #[.int .i64 e, .int .i64 l] 45)
  go_enter Try.func100, Try.ntmps100
  go_upto_region 1 with fail
  refine wp_world (fun wx => Blk wx w.heap.size #[.int .i64 e, .int .i64 l] 45 ∧ Below w.heap.size w wx) ⟨B0, hl⟩ ?_
  rintro w0 ⟨C0, l0⟩
  have k0 := C0.cell (i := 0) rfl
  have k1 := C0.cell (i := 1) rfl
  clear B0 hl
  go_wp2_with fail
  refine (hm.out _).mono ?_
  rintro r w1 ⟨rfl, hb1⟩
  have C1 := C0.mod ((Mod.refl (fun _ => False) _).after hb1) (fun h => h)
  have l1 := l0.trans (hb1.mono l0.size)
  clear k0 k1 C0 l0 hb1 hm
  have k0 := C1.cell (i := 0) rfl
  have k1 := C1.cell (i := 1) rfl
  cases b with
  | false =>
    obtain rfl : X = false := hX
    go_wp2_with fail
    go_ret
    exact ⟨rfl, l1⟩
  | true =>
    by_cases h1 : e ≤ t
    · by_cases h2 : t ≤ l
      · obtain rfl : X = true := by rw [hX, decide_eq_true h1, decide_eq_true h2]; rfl
        clear hX
        go_wp2_with fail
        go_ret
        exact ⟨rfl, l1⟩
      · obtain rfl : X = false := by rw [hX, decide_eq_true h1, decide_eq_false h2]; rfl
        clear hX
        have D2 := Lib.hid (decide_eq_false h2)
        go_wp2_with fail
        go_ret
        exact ⟨congrArg (fun b => Ending.returned (.bool b)) D2.out, l1⟩
    · obtain rfl : X = false := by rw [hX, decide_eq_false h1]; rfl
      clear hX
      go_wp2_with fail
      go_ret
      exact ⟨rfl, l1⟩
theorem wait_ref (e l t : Int) (w : World) :
    Calls Try.prog 84 #[.agg #[.int .i64 e, .int .i64 l], .int .i64 t] w fun r w' => r = .returned (.tuple #[.int .i64 (waN e l t), .bool (waB e l t)]) ∧ Below w.heap.size w w' := by
  have hN : waN e l t = if waB e l t then mx t e else 0 := rfl
  have hh := Lib.hid (fun w => has_ref e l (mx t e) w)
  have hW : haB e l (mx t e) = waB e l t := by
    have : e ≤ mx t e := by unfold mx; split <;> omega
    unfold haB waB
    rw [decide_eq_true this, Bool.true_and]
  rw [hW] at hh
  have hmx : (if t < e then e else t) = mx t e := rfl
  generalize waN e l t = N at hN ⊢
  generalize waB e l t = W at hN hh ⊢
  generalize mx t e = m at hN hh hmx
  clear hW
  replace hN := Lib.hid hN
  have hl := new_below w (.cells #[.int .i64 e, .int .i64 l] 45)
  go_enter Try.func84, Try.ntmps84
  go_wp2_with fail
  refine (hh.out _).mono ?_
  rintro r w1 ⟨rfl, hb1⟩
  have l1 := hl.trans (hb1.mono hl.size)
  cases W with
  | false =>
    obtain rfl : N = 0 := hN.out
    go_wp2_with fail
    go_ret2
    exact ⟨rfl, l1⟩
  | true =>
    obtain rfl : N = m := hN.out
    go_wp2_with fail
    go_ret2
    exact ⟨rfl, l1⟩
end Go.Proofs.Ytcdpiemkbefcoaa
