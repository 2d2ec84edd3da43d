/-
  Layer 11: the document's Places; the laws' pairs.
-/
import Derived.Test.YtcdpiemkbefcoaaWk
namespace Go.Proofs.Ytcdpiemkbefcoaa
open Go.RowKit
attribute [local go_sem] Oper.semAt_some

theorem ar_el : ElT Try.prog 38 41 2 16 := ⟨Try.underlying38, by kernel_rfl, by kernel_rfl, by kernel_rfl, by omega, by omega⟩
theorem rsl_ar (r k : Int) (w : World) : (Instr.buildSlice 38 1 #[(0, .agg #[.int .i64 r, .int .i64 k])]).run Try.prog w = .ok (.slice (some ⟨w.heap.size, 0, none⟩) 1 1) (w.alloc (.cells (stV (r, k)).toArray 41)) := by kernel_rfl
theorem prsI_le (N i : Nat) (h : i ≤ N) : (prsI N i).length ≤ i * N := by
  induction i with
  | zero => simp [prsI]
  | succ i ih =>
    rw [prsI_succ, List.length_append, rowP_len, Nat.succ_mul]
    have := ih (by omega)
    omega
theorem prsJ_le (N i d : Nat) (h : i ≤ N) (hN : N ≤ 17) (hd : d ≤ 17) : (prsJ N i d).length ≤ 306 := by
  unfold prsJ
  rw [List.length_append, rowP_len]
  have h1 := prsI_le N i h
  have h2 : i * N ≤ 17 * 17 := Nat.mul_le_mul (by omega) hN
  omega
theorem prs_le (n : Int) : (prs n).length ≤ 306 := by
  unfold prs
  by_cases h : 16 < n
  · rw [if_pos h]; simp
  · rw [if_neg h]
    have h1 := prsI_le (n + 1).toNat (n + 1).toNat (Nat.le_refl _)
    have h2 : (n + 1).toNat * (n + 1).toNat ≤ 17 * 17 := Nat.mul_le_mul (by omega) (by omega)
    omega

set_option maxHeartbeats 1000000 in
set_option maxRecDepth 100000 in
theorem rplaces_calls (n : Int) (w : World) : Calls Try.prog 13 #[.int .i64 n] w fun e w' => (∃ q d, e = .returned (.slice q (prs n).length d) ∧ Els w' q 2 ((prs n).map stV)) ∧ Below w.heap.size w w' := by
  by_cases c0 : n > 16
  · have hz : prs n = [] := by unfold prs; rw [if_pos (by omega)]
    rw [hz]
    clear hz
    go_enter Try.func13, Try.ntmps13
    go_wp2
    go_ret
    exact ⟨⟨none, 0, rfl, nil_els⟩, Below.refl _ _⟩
  obtain ⟨N, hN⟩ : ∃ N, N = (n + 1).toNat := ⟨_, rfl⟩
  have hz : prs n = prsI N N := by unfold prs; rw [if_neg (by omega), hN]
  rw [hz]
  clear hz
  go_enter Try.func13, Try.ntmps13
  go_wp2
  go_loopw [3, 4] (fun o i wr => ∃ k : Nat, k ≤ N ∧ i = .int .i64 k ∧ wr.ownsRow w.heap.size 41 2 o (prsI N k).length ((prsI N k).map stV).flatten ∧ Below w.heap.size w wr) (fun _ i _ => N - (intOf i).toNat)
  case atStart => exact ⟨0, Nat.zero_le _, rfl, World.ownsRow_nil _ _ _ _, Below.refl _ _⟩
  case round =>
    obtain ⟨i, hi, rfl, hown, hbr⟩ := hrel
    by_cases hlt : (i : Int) ≤ n
    · have s1 : IntKind.i64.wrap ((i : Int) + 1) = (i : Int) + 1 := IntWalk.i64_in _ (by omega)
      have hiN : i < N := by omega
      go_wp2
      go_loopw [3, 5] (fun o j wr => ∃ d : Nat, d ≤ N - i ∧ j = .int .i64 ((i + d : Nat) : Int) ∧ wr.ownsRow w.heap.size 41 2 o (prsJ N i d).length ((prsJ N i d).map stV).flatten ∧ Below w.heap.size w wr) (fun _ j _ => N - (intOf j).toNat)
      case atStart => exact ⟨0, Nat.zero_le _, rfl, by rw [prsJ_zero]; exact hown, hbr⟩
      case round =>
        clear hown hbr
        obtain ⟨d, hd, rfl, hown, hbr⟩ := hrel
        by_cases hlt2 : ((i + d : Nat) : Int) ≤ n
        · have s2 : IntKind.i64.wrap (((i + d : Nat) : Int) + 1) = ((i + d : Nat) : Int) + 1 := IntWalk.i64_in _ (by omega)
          have hsc := Lib.hid (prsJ_succ N i d)
          have hln := Lib.hid (prsJ_le N i d (by omega) (by omega) (by omega))
          obtain ⟨jj, hjj⟩ : ∃ jj : Int, jj = ((i + d : Nat) : Int) := ⟨_, rfl⟩
          rw [← hjj] at hsc hlt2 s2 ⊢
          replace hjj := Lib.hid hjj
          have hownA := Lib.hid (own_mod hown ((Mod.refl (fun _ => False) wr).alloc (.cells (stV ((i : Int), jj)).toArray 41)) (fun _ _ h => h))
          have hbA := Lib.hid (hbr.alloc hbr.size (.cells (stV ((i : Int), jj)).toArray 41))
          have hsA := Lib.hid hbA.out.size
          clear hown hbr
          go_upto_region 9 with (first | (refine wpList_bs1 rfl 38 1 0 _ rfl (.agg #[.int .i64 i, .int .i64 jj]) rfl _ _ (rsl_ar i jj _) ?_) |
            (refine wpList_appG ar_el rfl _ _ rfl w.heap.size hsA.out _ _ _ rfl hownA.out (Nat.le_trans hln.out (by omega)) _ 1 1 (stV ((i : Int), jj)) rfl rfl (by omega) (row_cells (Blk.new _ _ _)) (st_one _) ?_; intro v' w13 hown' hg'))
          have HO := Lib.hid hown'
          have HB := Lib.hid (grown_low hbA.out (Nat.le_refl _) (Nat.le_refl _) hownA.out hg')
          clear hown' hg' hownA hsA hbA
          go_wp2_with fail
          go_roundw
          case rel =>
            refine ⟨d + 1, by have := hjj.out; omega, by rw [hjj.out]; simp; omega, ?_, HB.out⟩
            rw [hsc.out, List.map_append, List.flatten_append, List.length_append]
            simpa using HO.out
          case measure => have := hjj.out; simp [intOf]; omega
        · obtain rfl : d = N - i := by omega
          rw [prsJ_end] at hown
          replace hown := Lib.hid hown
          go_wp2
          go_roundw
          case rel => exact ⟨i + 1, by omega, by simp, hown.out, hbr⟩
          case measure => simp [intOf]; omega
    · obtain rfl : i = N := by omega
      have hle := prs_le n
      have hz : prs n = prsI i i := by unfold prs; rw [if_neg (by omega), hN]
      rw [hz] at hle
      obtain ⟨q, m, d, rfl⟩ := own_isS hown
      have hEl := own_els (stV_len (prsI i i)) (by rw [List.length_map]; exact hown) (by rw [List.length_map]; omega)
      simp only [List.length_map] at hEl
      obtain ⟨h1, h2, h3, h4⟩ := hEl
      replace h2 := Lib.hid h2
      replace h1 := Lib.hid h1
      replace hbr := Lib.hid hbr
      clear hown h4 hle hz
      replace hN := Lib.hid hN
      go_wp2
      go_ret
      exact ⟨⟨q, ⟨d, by rw [← h2.out]; rfl⟩, h1.out⟩, hbr.out⟩
end Go.Proofs.Ytcdpiemkbefcoaa
