/-
  The document's side of layers 16, 18: Get, take, Num.
  The document's side of layer 18: small, digest.
-/
import Derived.Test.YtcipdimnbleljaaRd
import Derived.Test.YtcipdimnbleljaaDmQ
namespace Go.Proofs.Ytcipdimnbleljaa
open Go.RowKit

theorem pow256 : ∀ j : Nat, j ≤ 8 → (256 : Int) ^ j ≤ 18446744073709551616 := by
  intro j hj
  have : j = 0 ∨ j = 1 ∨ j = 2 ∨ j = 3 ∨ j = 4 ∨ j = 5 ∨ j = 6 ∨ j = 7 ∨ j = 8 := by omega
  rcases this with rfl | rfl | rfl | rfl | rfl | rfl | rfl | rfl | rfl <;> decide
set_option maxHeartbeats 2000000 in
set_option maxRecDepth 100000 in
theorem getd_ok (t : ByteArray) (k : Nat) (w : World) (hk : 1 ≤ k ∧ k ≤ 8) (ht : k ≤ t.size) (hs : t.size ≤ 140737488351232) :
    Calls Try.prog 61 #[.string t, .int .i64 0, .int .i64 k] w fun e w' => e = .returned (.tuple #[.int .u64 (numAt t 0 k), .bool true]) ∧ w = w' := by
  have g1 : (1 : Int) ≤ (k : Int) := by omega
  have g2 : (k : Int) ≤ 8 := by omega
  have g3 : (k : Int) ≤ (t.size : Int) := by omega
  have g4 : (t.size : Int) ≤ 140737488351232 := by omega
  have g5 : ¬ (t.size : Int) < (k : Int) := by omega
  go_enter Try.func61, Try.ntmps61
  go_wp2_with fail
  go_loopw [8, 9] (fun n i wr => ∃ j : Nat, j ≤ k ∧ i = .int .i64 j ∧ n = .int .u64 (numAt t 0 j) ∧ w = wr) (fun _ i _ => k - (intOf i).toNat)
  case atStart => exact ⟨0, by omega, rfl, rfl, rfl⟩
  case round =>
    obtain ⟨j, hj, rfl, rfl, rfl⟩ := hrel
    by_cases hlt : j < k
    · have hltI : (j : Int) < (k : Int) := by omega
      have hjt : j < t.size := by omega
      have hjI : (j : Int) < (t.size : Int) := by omega
      obtain ⟨b, hb, hc, hd⟩ : ∃ b : Int, ((t[j]'hjt).toNat : Int) = b ∧ b = byteAt t j ∧ (0 ≤ b ∧ b < 256) := ⟨_, byteAt_is t j hjt, rfl, byteAt_bd _ _⟩
      have hbd := numAt_bd t 0 j
      have hp1 := pow256 (j + 1) (by omega)
      have hp : (256 : Int) ^ (j + 1) = 256 ^ j * 256 := Int.pow_succ _ _
      have hnx : numAt t 0 (j + 1) = numAt t 0 j * 256 + b := by rw [numAt, Nat.zero_add, hc]
      have s0 : IntKind.u64.wrap b = b := IntWalk.u64_in _ (by omega)
      have s1 : IntKind.u64.wrap (numAt t 0 j * 256) = numAt t 0 j * 256 := IntWalk.u64_in _ (by omega)
      have s2 : IntKind.u64.wrap (numAt t 0 j * 256 + b) = numAt t 0 j * 256 + b := IntWalk.u64_in _ (by omega)
      have Hnx := Lib.hid hnx
      clear hnx hp hp1 hbd hc
      generalize numAt t 0 j = N at *
      go_wp2_with fail
      go_roundw
      case rel => exact ⟨j + 1, by omega, by go_num, by rw [Hnx.out], trivial⟩
      case measure => simp [intOf]; omega
    · obtain rfl : j = k := by omega
      go_wp2_with fail
      go_ret2
      exact ⟨rfl, rfl⟩
set_option maxHeartbeats 2000000 in
set_option maxRecDepth 100000 in
theorem getd_no (k : Nat) (w : World) (hk : 1 ≤ k ∧ k ≤ 8) :
    Calls Try.prog 61 #[.string ⟨#[]⟩, .int .i64 0, .int .i64 k] w fun e w' => e = .returned (.tuple #[.int .u64 0, .bool false]) ∧ w = w' := by
  have g1 : (1 : Int) ≤ (k : Int) := by omega
  have g2 : (k : Int) ≤ 8 := by omega
  have g3 : (0 : Int) < (k : Int) := by omega
  have hz : (ByteArray.mk #[]).size = 0 := rfl
  go_enter Try.func61, Try.ntmps61
  go_wp2_with fail
  go_ret2
  exact ⟨rfl, rfl⟩
set_option maxHeartbeats 2000000 in
set_option maxRecDepth 100000 in
theorem take_ok (r : ByteArray) (b k : Nat) (w : World) (hB : Blk w b #[.string r, .bool false] 89) (hk : k ≤ r.size) (hs : r.size ≤ 140737488351232) :
    Calls Try.prog 62 #[.pointer (some ⟨b, 0, none⟩), .int .i64 k] w fun e w' => e = .returned (.string (r.extract 0 k)) ∧ Blk w' b #[.string (r.extract k r.size), .bool false] 89 ∧ Mod (fun x => x = b) w w' := by
  have c0 := hB.cell (i := 0) rfl
  have c1 := hB.cell (i := 1) rfl
  have f0 := hB.froz 0
  have g1 : (k : Int) ≤ (r.size : Int) := by omega
  have g2 : (0 : Int) ≤ (k : Int) := by omega
  have g3 : (r.size : Int) ≤ 140737488351232 := by omega
  have HB := Lib.hid hB
  clear hB
  go_enter Try.func62, Try.ntmps62
  go_wp2_with fail
  go_ret
  exact ⟨rfl, HB.out.set 0 _, (Mod.refl (fun x => x = b) w).setCell (fun _ => rfl) _⟩
set_option maxHeartbeats 2000000 in
set_option maxRecDepth 100000 in
theorem take_no (r : ByteArray) (b k : Nat) (bad : Bool) (w : World) (hB : Blk w b #[.string r, .bool bad] 89) (hk : bad = true ∨ r.size < k) (_ : r.size ≤ 140737488351232) :
    Calls Try.prog 62 #[.pointer (some ⟨b, 0, none⟩), .int .i64 k] w fun e w' => e = .returned (.string ⟨#[]⟩) ∧ Blk w' b #[.string r, .bool true] 89 ∧ Mod (fun x => x = b) w w' := by
  have c0 := hB.cell (i := 0) rfl
  have c1 := hB.cell (i := 1) rfl
  have f1 := hB.froz 1
  have HB := Lib.hid hB
  clear hB
  cases bad with
  | true =>
    go_enter Try.func62, Try.ntmps62
    go_wp2_with fail
    go_ret
    exact ⟨rfl, HB.out.set 1 _, (Mod.refl (fun x => x = b) w).setCell (fun _ => rfl) _⟩
  | false =>
    have g1 : (r.size : Int) < (k : Int) := by
      rcases hk with h | h
      · cases h
      · omega
    go_enter Try.func62, Try.ntmps62
    go_wp2_with fail
    go_ret
    exact ⟨rfl, HB.out.set 1 _, (Mod.refl (fun x => x = b) w).setCell (fun _ => rfl) _⟩
theorem numAt_part (s : ByteArray) (a : Nat) : ∀ k, a + k ≤ s.size → numAt ((s.extract a s.size).extract 0 k) 0 k = numAt s a k := by
  intro k hk
  have key : ∀ j, j ≤ k → numAt ((s.extract a s.size).extract 0 k) 0 j = numAt s a j := by
    intro j
    induction j with
    | zero => intro _; rfl
    | succ j ih =>
      intro hj
      rw [numAt, numAt, ih (by omega), Nat.zero_add]
      have e : byteAt ((s.extract a s.size).extract 0 k) j = byteAt s (a + j) := by
        unfold byteAt
        congr 2
        rw [getElem?_pos _ j (by simp only [ByteArray.size_extract]; omega), getElem?_pos _ (a + j) (by omega)]
        simp [ByteArray.getElem_extract]
      rw [e]
  exact key k (Nat.le_refl _)
set_option maxHeartbeats 2000000 in
set_option maxRecDepth 100000 in
/-- the next number of a reader of s that stands at a -/
theorem numd_calls (s : ByteArray) (a b k : Nat) (bad : Bool) (w : World) (hB : Blk w b #[.string (s.extract a s.size), .bool bad] 89) (ha : a ≤ s.size) (hk : 1 ≤ k ∧ k ≤ 8) (hs : s.size ≤ 140737488351232) :
    Calls Try.prog 53 #[.pointer (some ⟨b, 0, none⟩), .int .i64 k] w fun e w' => e = .returned (.int .u64 (rdNum s a bad k)) ∧ Blk w' b #[.string (s.extract (rdAt s a bad k) s.size), .bool (rdBad s a bad k)] 89 ∧ Mod (fun x => x = b) w w' := by
  have g1 : (1 : Int) ≤ (k : Int) := by omega
  have g2 : (k : Int) ≤ 8 := by omega
  have hz : (s.extract a s.size).size = s.size - a := by rw [ByteArray.size_extract]; omega
  cases hbd : rdBad s a bad k with
  | true =>
    have hr : bad = true ∨ s.size < a + k := by
      unfold rdBad at hbd
      simpa using hbd
    have ht := Lib.hid (take_no (s.extract a s.size) b k bad w hB (hr.imp id (fun h => by rw [hz]; omega)) (by rw [hz]; omega))
    have hg := Lib.hid (fun w => getd_no k w hk)
    rw [show rdNum s a bad k = 0 by unfold rdNum; rw [if_pos hbd], show rdAt s a bad k = a by unfold rdAt; rw [if_pos hbd]]
    go_enter Try.func53, Try.ntmps53
    go_wp2_with fail
    refine ht.out.mono ?_
    rintro e w1 ⟨rfl, hB1, hm1⟩
    go_wp2_with fail
    refine (hg.out _).mono ?_
    rintro e w2 ⟨rfl, rfl⟩
    go_wp2_with fail
    go_ret
    exact ⟨rfl, hB1, hm1⟩
  | false =>
    have hr : bad = false ∧ a + k ≤ s.size := by
      unfold rdBad at hbd
      simpa using hbd
    obtain ⟨rfl, hak⟩ := hr
    have ht := take_ok (s.extract a s.size) b k w hB (by rw [hz]; omega) (by rw [hz]; omega)
    have e2 : (s.extract a s.size).extract k (s.extract a s.size).size = s.extract (a + k) s.size := by
      rw [ByteArray.extract_extract, hz]
      congr 1
      omega
    rw [e2] at ht
    have Ht := Lib.hid ht
    have hg := getd_ok ((s.extract a s.size).extract 0 k)
    have hg2 := Lib.hid (fun w => hg k w hk (by rw [ByteArray.size_extract, hz]; omega) (by rw [ByteArray.size_extract, hz]; omega))
    rw [numAt_part s a k hak] at hg2
    rw [show rdNum s a false k = numAt s a k by unfold rdNum; rw [if_neg (by rw [hbd]; decide)], show rdAt s a false k = a + k by unfold rdAt; rw [if_neg (by rw [hbd]; decide)]]
    clear ht hg e2
    go_enter Try.func53, Try.ntmps53
    go_wp2_with fail
    refine Ht.out.mono ?_
    rintro e w1 ⟨rfl, hB1, hm1⟩
    go_wp2_with fail
    refine (hg2.out _).mono ?_
    rintro e w2 ⟨rfl, rfl⟩
    go_wp2_with fail
    go_ret
    exact ⟨rfl, hB1, hm1⟩
end Go.Proofs.Ytcipdimnbleljaa
namespace Go.Proofs.Ytcipdimnbleljaa
open Go.RowKit
open Extern.Stop (cell)

theorem rdAt_le {s : ByteArray} {a k : Nat} {bad : Bool} (h : a ≤ s.size) : rdAt s a bad k ≤ s.size := by
  unfold rdAt
  split
  · exact h
  · rename_i hb
    unfold rdBad at hb
    simp at hb
    omega
theorem dgA_le {s : ByteArray} {a : Nat} {bad : Bool} (h : a ≤ s.size) : ∀ k, (dgA s a bad k).1 ≤ s.size
  | 0 => h
  | k + 1 => rdAt_le (dgA_le h k)
set_option maxHeartbeats 2000000 in
set_option maxRecDepth 100000 in
theorem small_calls (s : ByteArray) (a b k : Nat) (bad : Bool) (w : World) (hB : Blk w b #[.string (s.extract a s.size), .bool bad] 89) (ha : a ≤ s.size) (hk : 1 ≤ k ∧ k ≤ 4) (hs : s.size ≤ 140737488351232) :
    Calls Try.prog 51 #[.pointer (some ⟨b, 0, none⟩), .int .i64 k] w fun e w' => e = .returned (.int .i64 (rdNum s a bad k)) ∧ Blk w' b #[.string (s.extract (rdAt s a bad k) s.size), .bool (rdBad s a bad k)] 89 ∧ Mod (fun x => x = b) w w' := by
  have hn := Lib.hid (numd_calls s a b k bad w hB ha ⟨hk.1, by omega⟩ hs)
  have hbd := rdNum_bd s a bad k
  have hp : (256 : Int) ^ k ≤ 4294967296 := by
    have : k = 1 ∨ k = 2 ∨ k = 3 ∨ k = 4 := by omega
    rcases this with rfl | rfl | rfl | rfl <;> decide
  have s1 : IntKind.i64.wrap (rdNum s a bad k) = rdNum s a bad k := IntWalk.i64_in _ (by omega)
  clear hB hbd hp
  go_enter Try.func51, Try.ntmps51
  go_wp2_with fail
  refine hn.out.mono ?_
  rintro e w1 ⟨rfl, hB1, hm1⟩
  go_wp2_with fail
  go_ret
  exact ⟨rfl, hB1, hm1⟩
def zero32 : Array Value := #[.int .u8 0, .int .u8 0, .int .u8 0, .int .u8 0, .int .u8 0, .int .u8 0, .int .u8 0, .int .u8 0, .int .u8 0, .int .u8 0, .int .u8 0, .int .u8 0, .int .u8 0, .int .u8 0, .int .u8 0, .int .u8 0, .int .u8 0, .int .u8 0, .int .u8 0, .int .u8 0, .int .u8 0, .int .u8 0, .int .u8 0, .int .u8 0, .int .u8 0, .int .u8 0, .int .u8 0, .int .u8 0, .int .u8 0, .int .u8 0, .int .u8 0, .int .u8 0]
theorem dgRow_one (s : ByteArray) (a : Nat) (bad : Bool) (k : Nat) : ∀ v ∈ (dgRow s a bad zero32 0 k).toList, v.oneCell' = true := by
  induction k with
  | zero => show ∀ v ∈ zero32.toList, v.oneCell' = true; decide
  | succ k ih =>
    intro v hv
    rw [dgRow, Array.toList_setIfInBounds] at hv
    rcases List.mem_or_eq_of_mem_set hv with h | h
    · exact ih v h
    · subst h; rfl
set_option maxHeartbeats 1000000 in
set_option maxRecDepth 100000 in
theorem digd_calls (s : ByteArray) (a b : Nat) (bad : Bool) (w : World) (hB : Blk w b #[.string (s.extract a s.size), .bool bad] 89) (ha : a ≤ s.size) (hs : s.size ≤ 140737488351232) :
    Calls Try.prog 52 #[.pointer (some ⟨b, 0, none⟩)] w fun e w' => e = .returned (.agg (dgRow s a bad zero32 0 32)) ∧ Blk w' b #[.string (s.extract (dgA s a bad 32).1 s.size), .bool (dgA s a bad 32).2] 89 ∧ Mod (fun x => x = b) w w' := by
  have hbl := hB.lt
  go_enter Try.func52, Try.ntmps52
  go_upto_region 2 with fail
  refine wp_world' (fun wx => Blk wx w.heap.size zero32 37 ∧ Blk wx (w.heap.size + 1) zero32 37 ∧ Blk wx b #[.string (s.extract a s.size), .bool bad] 89 ∧ Mod (fun x => x = b) w wx)
    ⟨(Blk.new w zero32 _).alloc _, Blk.new' w _ zero32 _, (hB.alloc _).alloc _, ((Mod.refl _ w).alloc _).alloc _⟩ ?_
  rintro w0 ⟨hR, hD, hB0, hm0⟩
  clear hB
  go_wp2_with fail
  go_loopw [4] (fun i wr => ∃ k : Nat, k ≤ 32 ∧ i = .int .i64 k ∧ Blk wr w.heap.size zero32 37 ∧ Blk wr (w.heap.size + 1) (dgRow s a bad zero32 0 k) 37 ∧ Blk wr b #[.string (s.extract (dgA s a bad k).1 s.size), .bool (dgA s a bad k).2] 89 ∧ Mod (fun x => x = b) w wr) (fun i _ => 32 - (intOf i).toNat)
  case atStart => exact ⟨0, by omega, rfl, hR, hD, hB0, hm0⟩
  case round =>
    obtain ⟨k, hk, rfl, hR1, hD1, hB1, hm1⟩ := hrel
    clear hR hD hB0 hm0
    by_cases hlt : k < 32
    · have hltI : (k : Int) < 32 := by omega
      have hn := Lib.hid (numd_calls s (dgA s a bad k).1 b 1 (dgA s a bad k).2 wr hB1 (dgA_le ha k) (by omega) hs)
      have hbd := rdNum_bd s (dgA s a bad k).1 (dgA s a bad k).2 1
      have s1 : IntKind.u8.wrap (rdNum s (dgA s a bad k).1 (dgA s a bad k).2 1) = rdNum s (dgA s a bad k).1 (dgA s a bad k).2 1 := IntWalk.u8_in _ (by omega)
      have HR1 := Lib.hid hR1
      have HD1 := Lib.hid hD1
      clear hR1 hD1 hB1 hbd
      go_wp2_with fail
      refine hn.out.mono ?_
      rintro e w2 ⟨rfl, hB2, hm2⟩
      have hR2 := HR1.out.mod hm2 (by omega)
      have hD2 := HD1.out.mod hm2 (by omega)
      have hm3 := hm1.trans hm2
      have hz : (dgRow s a bad zero32 0 k).size = 32 := by rw [dgRow_size]; rfl
      have ck := hD2.cell (Array.getElem?_eq_getElem (i := k) (by omega))
      have fk := hD2.froz k
      have HB2 := Lib.hid hB2
      have HR2 := Lib.hid hR2
      have HD2 := Lib.hid hD2
      clear hB2 hR2 hD2 HR1 HD1 hn
      go_wp2_with fail
      go_roundw
      case rel =>
        refine ⟨k + 1, by omega, by go_num, HR2.out.other (by show w.heap.size ≠ w.heap.size + 1; omega) _, ?_, HB2.out.other (by show b ≠ w.heap.size + 1; omega) _, hm3.setCell (fun h => by simp at h; omega) _⟩
        have := HD2.out.set k (.int .u8 (rdNum s (dgA s a bad k).1 (dgA s a bad k).2 1))
        rw [dgRow, Nat.zero_add]
        exact this
      case measure => simp [intOf]; omega
    · obtain rfl : k = 32 := by omega
      have HR := Lib.hid hR1
      have hone := Lib.hid (dgRow_one s a bad 32)
      have hzs := Lib.hid (show zero32.size = (dgRow s a bad zero32 0 32).size by rw [dgRow_size])
      have hsz : Hid ((Try.prog.info? 37).map (·.size) = some (dgRow s a bad zero32 0 32).size) := Lib.hid (by rw [dgRow_size]; kernel_rfl)
      have hld := Lib.hid (run_load_row' (P := Try.prog) wr (w.heap.size + 1) 37 _ 37 _ hD1 Try.underlying37 rfl hsz.out)
      have HB1 := Lib.hid hB1
      clear hR1 hD1 hB1
      have HX : ∃ X, dgRow s a bad zero32 0 32 = X := ⟨_, rfl⟩
      obtain ⟨D, HX⟩ := HX
      rw [HX] at hld hzs hone hsz
      replace HX := Lib.hid HX
      go_wp2_with (first | (refine wpList_load_v rfl 37 _ rfl ⟨w.heap.size + 1, 0, none⟩ rfl _ hld.out ?_) | (refine wpList_store_row2 rfl 37 _ _ rfl rfl w.heap.size rfl zero32 D 37 HR.out rfl (by exact hzs.out) hone.out hsz.out ?_; intro wz hBz hmz))
      (try simp only [Exit.inBlock, Exit.then])
      exact bodyPost_ret (results_cell_row rfl _ _ w.heap.size _ _ _ _ rfl hBz Try.underlying37 rfl hsz.out) rfl ⟨by rw [HX.out], HB1.out.mod hmz (by omega), ⟨hmz.os.trans hm1.os, hmz.tape.trans hm1.tape, hmz.output.trans hm1.output, Nat.le_trans hm1.size hmz.size, fun k hk hs => (hmz.block k (Nat.lt_of_lt_of_le hk hm1.size) (by omega)).trans (hm1.block k hk hs)⟩⟩
end Go.Proofs.Ytcipdimnbleljaa
