/-
  The document's side of layer 18: a number laid; a frame; a carrier; an outcome; a request.
-/
import Derived.Test.YtcipdimnbleljaaWh
namespace Go.Proofs.Ytcipdimnbleljaa
open Go.RowKit
open Extern.Stop (cell)

theorem be_front (j : Nat) : ∀ n : Int, be n (j + 1) = (n / 256 ^ j % 256) :: be n j := by
  induction j with
  | zero => intro n; simp [be]
  | succ j ih =>
    intro n
    have e : be n (j + 1 + 1) = be (n / 256) (j + 1) ++ [n % 256] := rfl
    have e2 : be n (j + 1) = be (n / 256) j ++ [n % 256] := rfl
    rw [e, ih (n / 256), e2, Int.ediv_ediv_of_nonneg (by omega : (0 : Int) ≤ 256), show (256 : Int) * 256 ^ j = 256 ^ (j + 1) by rw [Int.pow_succ, Int.mul_comm]]
    rfl
theorem pow_pos' (j : Nat) : (0 : Int) < 256 ^ j := Int.pow_pos (by omega)

set_option maxHeartbeats 1000000 in
set_option maxRecDepth 100000 in
theorem laid_calls (n : Int) (k : Nat) (w : World) (hn : 0 ≤ n ∧ n < 18446744073709551616) (hk : k ≤ 8) :
    Calls Try.prog 25 #[.int .u64 n, .int .i64 k] w fun e w' => e = .returned (.tuple #[.string (strOfNums (be n k)), .bool (n / 256 ^ k == 0)]) ∧ Below w.heap.size w w' := by
  go_enter Try.func25, Try.ntmps25
  go_wp2
  go_loopw [0, 6, 7] (fun m s i wr => ∃ j : Nat, j ≤ k ∧ i = .int .i64 j ∧ m = .int .u64 (n / 256 ^ j) ∧ s = .string (strOfNums (be n j)) ∧ Below w.heap.size w wr) (fun _ _ i _ => k - (intOf i).toNat)
  case atStart => exact ⟨0, by omega, rfl, by simp, rfl, Below.refl _ _⟩
  case round =>
    obtain ⟨j, hj, rfl, rfl, rfl, hb⟩ := hrel
    by_cases hlt : j < k
    · have hltI : (j : Int) < k := by omega
      have hp := pow_pos' j
      have hq0 : 0 ≤ n / 256 ^ j := Int.ediv_nonneg hn.1 (by omega)
      have hq1 : n / 256 ^ j < 18446744073709551616 := Int.lt_of_le_of_lt (Int.ediv_le_self _ hn.1) hn.2
      have hbf := Lib.hid (be_front j n)
      have hds := Lib.hid (show n / 256 ^ j / 256 = n / 256 ^ (j + 1) by rw [Int.ediv_ediv_of_nonneg (Int.le_of_lt hp), Int.pow_succ])
      generalize n / 256 ^ j = q at hq0 hq1 hbf hds
      have s1 : q.tmod 256 = q % 256 := Int.tmod_eq_emod_of_nonneg hq0
      have s2 : q.tdiv 256 = q / 256 := Int.tdiv_eq_ediv_of_nonneg hq0
      have s3 : IntKind.u8.wrap (q % 256) = q % 256 := IntWalk.u8_in _ (by omega)
      have s4 : IntKind.u64.wrap (q % 256) = q % 256 := IntWalk.u64_in _ (by omega)
      have s5 : IntKind.u64.wrap (q / 256) = q / 256 := IntWalk.u64_in _ (by omega)
      have hl := be_length n j
      have hz1 : (strOfNums [q % 256]).size = 1 := rfl
      have hz : (strOfNums (be n j)).size ≤ 8 := by rw [strOfNums_size, hl]; omega
      have hcv := (run_convert_bytes_arg (P := Try.prog) (wr.alloc (.cells #[.int .u8 (q % 256)] 5)) 26 5 Try.underlying26 Try.underlying5 wr.heap.size 0 1 1 [q % 256] rfl
        (by intro i hi; rw [World.cell?_alloc_new]; rcases i with _ | i <;> first | rfl | (simp at hi)) 9 Try.underlying9)
      go_wp2
      go_roundw
      case rel => exact ⟨j + 1, by omega, by go_num, by rw [hds.out], by rw [hbf.out, show (q % 256 :: be n j) = [q % 256] ++ be n j from rfl, strOfNums_append], hb.alloc hb.size _⟩
      case measure => simp [intOf]; omega
    · obtain rfl : j = k := by omega
      go_wp2
      go_ret2
      exact ⟨rfl, hb⟩

theorem num_ref (n : Int) (k : Nat) (w : World) (hn : 0 ≤ n ∧ n < 9223372036854775808) (hk : k ≤ 8) :
    Calls Try.prog 24 #[.int .i64 n, .int .i64 k] w fun e w' => e = .returned (.string (strOfNums (be n k))) ∧ Below w.heap.size w w' := by
  have hl := Lib.hid (laid_calls n k w ⟨hn.1, by omega⟩ hk)
  have s1 : IntKind.u64.wrap n = n := IntWalk.u64_in _ (by omega)
  go_enter Try.func24, Try.ntmps24
  go_wp2_with fail
  refine hl.out.mono ?_
  rintro e w1 ⟨rfl, hb⟩
  go_wp2_with fail
  go_ret
  exact ⟨rfl, hb⟩
/-- a frame's bytes -/
def frmS (k : Int) (s : ByteArray) : ByteArray := strOfNums (be k 1) ++ strOfNums (be s.size 2) ++ s
theorem frame_ref (k : Int) (s : ByteArray) (w : World) (hk : 0 ≤ k ∧ k < 9223372036854775808) (hs : s.size ≤ 140737488351232) :
    Calls Try.prog 14 #[.int .i64 k, .string s] w fun e w' => e = .returned (.string (frmS k s)) ∧ Below w.heap.size w w' := by
  have hn1 := Lib.hid (fun w => num_ref k 1 w hk (by omega))
  have hn2 := Lib.hid (fun w => num_ref s.size 2 w (by omega) (by omega))
  have z1 : (strOfNums (be k 1)).size = 1 := by rw [strOfNums_size, be_length]
  have z2 : (strOfNums (be s.size 2)).size = 2 := by rw [strOfNums_size, be_length]
  have hX : Hid (strOfNums (be k 1) ++ strOfNums (be s.size 2) ++ s = _) := Lib.hid rfl
  unfold frmS
  generalize strOfNums (be k 1) = A at hn1 z1
  generalize strOfNums (be s.size 2) = B at hn2 z2
  go_enter Try.func14, Try.ntmps14
  go_wp2_with fail
  refine (hn1.out _).mono ?_
  rintro e w1 ⟨rfl, hb1⟩
  go_wp2_with fail
  refine (hn2.out _).mono ?_
  rintro e w2 ⟨rfl, hb2⟩
  go_wp2_with fail
  go_ret
  exact ⟨rfl, hb1.trans (hb2.mono hb1.size)⟩
theorem carrier_ref (n : Int) (w : World) : Calls Try.prog 49 #[.int .i64 n] w fun e w' => e = .returned (.bool (decide (0 ≤ n ∧ n < 8))) ∧ Below w.heap.size w w' := by
  by_cases h0 : 0 ≤ n
  · by_cases h1 : n < 8
    · rw [decide_eq_true (⟨h0, h1⟩ : 0 ≤ n ∧ n < 8)]
      go_enter Try.func49, Try.ntmps49
      go_wp2
      go_ret
      exact ⟨rfl, Below.refl _ _⟩
    · rw [decide_eq_false (fun h => h1 h.2 : ¬ (0 ≤ n ∧ n < 8))]
      go_enter Try.func49, Try.ntmps49
      go_wp2
      go_ret
      exact ⟨rfl, Below.refl _ _⟩
  · rw [decide_eq_false (fun h => h0 h.1 : ¬ (0 ≤ n ∧ n < 8))]
    go_enter Try.func49, Try.ntmps49
    go_wp2
    go_ret
    exact ⟨rfl, Below.refl _ _⟩
end Go.Proofs.Ytcipdimnbleljaa
