/-
  Layer 16 (octet): the program's Get.
-/
import Derived.Test.YtcipdimnbleljaaOct
namespace Go.Proofs.Ytcipdimnbleljaa
open Go.RowKit

/-- byte i of a text -/
def byteAt (s : ByteArray) (i : Nat) : Int := ((s[i]?.getD 0).toNat : Int)
theorem byteAt_bd (s : ByteArray) (i : Nat) : 0 ≤ byteAt s i ∧ byteAt s i < 256 := by
  unfold byteAt
  have := (s[i]?.getD 0).toNat_lt
  omega
theorem byteAt_is (s : ByteArray) (i : Nat) (h : i < s.size) : ((s[i]'h).toNat : Int) = byteAt s i := by
  unfold byteAt
  rw [getElem?_pos s i h]
  rfl
/-- the number of k bytes, from place i -/
def numAt (s : ByteArray) (i : Nat) : Nat → Int
  | 0 => 0
  | k + 1 => numAt s i k * 256 + byteAt s (i + k)
theorem numAt_bd (s : ByteArray) (i k : Nat) : 0 ≤ numAt s i k ∧ numAt s i k < 256 ^ k := by
  induction k with
  | zero => simp [numAt]
  | succ k ih =>
    have h := byteAt_bd s (i + k)
    rw [numAt, Int.pow_succ]
    omega

/-- 'n << 8 | b' -/
theorem or_u64_byte (p b : Int) (hp : 0 ≤ p ∧ p < 72057594037927936) (hb : 0 ≤ b ∧ b < 256) : bits .or .u64 (p * 256) b = p * 256 + b := by
  obtain ⟨B, rfl⟩ := Int.eq_ofNat_of_zero_le hp.1
  obtain ⟨C, rfl⟩ := Int.eq_ofNat_of_zero_le hb.1
  have e : ((B : Int) * 256) = ((B * 256 : Nat) : Int) := by omega
  show IntKind.u64.wrap ((BitVec.ofInt 64 ((B : Int) * 256) ||| BitVec.ofInt 64 (C : Int)).toNat : Int) = _
  rw [e, BitVec.toNat_or, ofInt_u64 _ (by omega), ofInt_u64 _ (by omega)]
  have h := nat_join8' (B * 256) C (by omega) (by omega)
  rw [Nat.or_comm, h, IntWalk.u64_in _ (by omega)]
  omega

set_option maxHeartbeats 2000000 in
set_option maxRecDepth 100000 in
theorem get1_calls (s : ByteArray) (a : Nat) (x : Int) (hx : x = a) (w : World)  (hs : s.size ≤ 140737488351232) (h : a + 1 ≤ s.size) :
    Calls Try.prog 86 #[.string s, .int .i64 x, .int .i64 1] w fun e w' => e = .returned (.tuple #[.int .u64 (numAt s a 1), .bool true]) ∧ Below w.heap.size w w' := by
  obtain ⟨b0, hb0, hc0, hd0⟩ : ∃ b : Int, ((s[a]'(by omega)).toNat : Int) = b ∧ b = byteAt s (a) ∧ (0 ≤ b ∧ b < 256) := ⟨_, byteAt_is s (a) (by omega), rfl, byteAt_bd _ _⟩
  have hw0 : IntKind.u64.wrap b0 = b0 := IntWalk.u64_in _ (by omega)
  have hor0 : bits .or .u64 0 b0 = b0 := by have := or_u64_byte 0 b0 (by omega) hd0; simpa using this
  have hres : numAt s a 1 = b0 := by simp only [numAt, Nat.add_zero, ← hc0]; omega
  rw [hres]
  clear hres hc0 
  subst hx
  go_enter Try.func86, Try.ntmps86
  go_wp2_with fail
  refine (wide_calls 1 _ (by omega) (by omega)).mono ?_
  rintro e w' ⟨rfl, rfl⟩
  go_wp2_with fail
  refine wp_loop_rounds 2 ?_
  rw [rounds_succ]; go_wp2_with fail
  rw [rounds_succ]; go_wp2_with fail
  exact bodyPost_ret (v := .tuple #[.int .u64 b0, .bool true]) (by simp [results, Try.results86, go_sem]) rfl ⟨rfl, Below.refl _ _⟩

set_option maxHeartbeats 2000000 in
set_option maxRecDepth 100000 in
theorem get2_calls (s : ByteArray) (a : Nat) (x : Int) (hx : x = a) (w : World)  (hs : s.size ≤ 140737488351232) (h : a + 2 ≤ s.size) :
    Calls Try.prog 86 #[.string s, .int .i64 x, .int .i64 2] w fun e w' => e = .returned (.tuple #[.int .u64 (numAt s a 2), .bool true]) ∧ Below w.heap.size w w' := by
  obtain ⟨b0, hb0, hc0, hd0⟩ : ∃ b : Int, ((s[a]'(by omega)).toNat : Int) = b ∧ b = byteAt s (a) ∧ (0 ≤ b ∧ b < 256) := ⟨_, byteAt_is s (a) (by omega), rfl, byteAt_bd _ _⟩
  have hw0 : IntKind.u64.wrap b0 = b0 := IntWalk.u64_in _ (by omega)
  have hor0 : bits .or .u64 0 b0 = b0 := by have := or_u64_byte 0 b0 (by omega) hd0; simpa using this
  obtain ⟨b1, hb1, hc1, hd1⟩ : ∃ b : Int, ((s[a + 1]'(by omega)).toNat : Int) = b ∧ b = byteAt s (a + 1) ∧ (0 ≤ b ∧ b < 256) := ⟨_, byteAt_is s (a + 1) (by omega), rfl, byteAt_bd _ _⟩
  have hw1 : IntKind.u64.wrap b1 = b1 := IntWalk.u64_in _ (by omega)
  obtain ⟨p2, hp2, hq2⟩ : ∃ p : Int, p = b0 * 256 + b1 ∧ (0 ≤ p ∧ p < 65536) := ⟨_, rfl, by omega⟩
  have hor1 : bits .or .u64 (b0 * 256) b1 = p2 := by rw [hp2]; exact or_u64_byte _ _ (by omega) hd1
  have hres : numAt s a 2 = p2 := by simp only [numAt, Nat.add_zero, ← hc0, ← hc1]; omega
  rw [hres]
  clear hres hc0 hc1 hp2
  subst hx
  go_enter Try.func86, Try.ntmps86
  go_wp2_with fail
  refine (wide_calls 2 _ (by omega) (by omega)).mono ?_
  rintro e w' ⟨rfl, rfl⟩
  go_wp2_with fail
  refine wp_loop_rounds 3 ?_
  rw [rounds_succ]; go_wp2_with fail
  rw [rounds_succ]; go_wp2_with fail
  rw [rounds_succ]; go_wp2_with fail
  exact bodyPost_ret (v := .tuple #[.int .u64 p2, .bool true]) (by simp [results, Try.results86, go_sem]) rfl ⟨rfl, Below.refl _ _⟩

set_option maxHeartbeats 2000000 in
set_option maxRecDepth 100000 in
theorem get4_calls (s : ByteArray) (a : Nat) (x : Int) (hx : x = a) (w : World)  (hs : s.size ≤ 140737488351232) (h : a + 4 ≤ s.size) :
    Calls Try.prog 86 #[.string s, .int .i64 x, .int .i64 4] w fun e w' => e = .returned (.tuple #[.int .u64 (numAt s a 4), .bool true]) ∧ Below w.heap.size w w' := by
  obtain ⟨b0, hb0, hc0, hd0⟩ : ∃ b : Int, ((s[a]'(by omega)).toNat : Int) = b ∧ b = byteAt s (a) ∧ (0 ≤ b ∧ b < 256) := ⟨_, byteAt_is s (a) (by omega), rfl, byteAt_bd _ _⟩
  have hw0 : IntKind.u64.wrap b0 = b0 := IntWalk.u64_in _ (by omega)
  have hor0 : bits .or .u64 0 b0 = b0 := by have := or_u64_byte 0 b0 (by omega) hd0; simpa using this
  obtain ⟨b1, hb1, hc1, hd1⟩ : ∃ b : Int, ((s[a + 1]'(by omega)).toNat : Int) = b ∧ b = byteAt s (a + 1) ∧ (0 ≤ b ∧ b < 256) := ⟨_, byteAt_is s (a + 1) (by omega), rfl, byteAt_bd _ _⟩
  have hw1 : IntKind.u64.wrap b1 = b1 := IntWalk.u64_in _ (by omega)
  obtain ⟨p2, hp2, hq2⟩ : ∃ p : Int, p = b0 * 256 + b1 ∧ (0 ≤ p ∧ p < 65536) := ⟨_, rfl, by omega⟩
  have hor1 : bits .or .u64 (b0 * 256) b1 = p2 := by rw [hp2]; exact or_u64_byte _ _ (by omega) hd1
  obtain ⟨b2, hb2, hc2, hd2⟩ : ∃ b : Int, ((s[a + 2]'(by omega)).toNat : Int) = b ∧ b = byteAt s (a + 2) ∧ (0 ≤ b ∧ b < 256) := ⟨_, byteAt_is s (a + 2) (by omega), rfl, byteAt_bd _ _⟩
  have hw2 : IntKind.u64.wrap b2 = b2 := IntWalk.u64_in _ (by omega)
  obtain ⟨p3, hp3, hq3⟩ : ∃ p : Int, p = p2 * 256 + b2 ∧ (0 ≤ p ∧ p < 16777216) := ⟨_, rfl, by omega⟩
  have hor2 : bits .or .u64 (p2 * 256) b2 = p3 := by rw [hp3]; exact or_u64_byte _ _ (by omega) hd2
  obtain ⟨b3, hb3, hc3, hd3⟩ : ∃ b : Int, ((s[a + 3]'(by omega)).toNat : Int) = b ∧ b = byteAt s (a + 3) ∧ (0 ≤ b ∧ b < 256) := ⟨_, byteAt_is s (a + 3) (by omega), rfl, byteAt_bd _ _⟩
  have hw3 : IntKind.u64.wrap b3 = b3 := IntWalk.u64_in _ (by omega)
  obtain ⟨p4, hp4, hq4⟩ : ∃ p : Int, p = p3 * 256 + b3 ∧ (0 ≤ p ∧ p < 4294967296) := ⟨_, rfl, by omega⟩
  have hor3 : bits .or .u64 (p3 * 256) b3 = p4 := by rw [hp4]; exact or_u64_byte _ _ (by omega) hd3
  have hres : numAt s a 4 = p4 := by simp only [numAt, Nat.add_zero, ← hc0, ← hc1, ← hc2, ← hc3]; omega
  rw [hres]
  clear hres hc0 hc1 hc2 hc3 hp2 hp3 hp4
  subst hx
  go_enter Try.func86, Try.ntmps86
  go_wp2_with fail
  refine (wide_calls 4 _ (by omega) (by omega)).mono ?_
  rintro e w' ⟨rfl, rfl⟩
  go_wp2_with fail
  refine wp_loop_rounds 5 ?_
  rw [rounds_succ]; go_wp2_with fail
  rw [rounds_succ]; go_wp2_with fail
  rw [rounds_succ]; go_wp2_with fail
  rw [rounds_succ]; go_wp2_with fail
  rw [rounds_succ]; go_wp2_with fail
  exact bodyPost_ret (v := .tuple #[.int .u64 p4, .bool true]) (by simp [results, Try.results86, go_sem]) rfl ⟨rfl, Below.refl _ _⟩

set_option maxHeartbeats 2000000 in
set_option maxRecDepth 100000 in
theorem get8_calls (s : ByteArray) (a : Nat) (x : Int) (hx : x = a) (w : World)  (hs : s.size ≤ 140737488351232) (h : a + 8 ≤ s.size) :
    Calls Try.prog 86 #[.string s, .int .i64 x, .int .i64 8] w fun e w' => e = .returned (.tuple #[.int .u64 (numAt s a 8), .bool true]) ∧ Below w.heap.size w w' := by
  obtain ⟨b0, hb0, hc0, hd0⟩ : ∃ b : Int, ((s[a]'(by omega)).toNat : Int) = b ∧ b = byteAt s (a) ∧ (0 ≤ b ∧ b < 256) := ⟨_, byteAt_is s (a) (by omega), rfl, byteAt_bd _ _⟩
  have hw0 : IntKind.u64.wrap b0 = b0 := IntWalk.u64_in _ (by omega)
  have hor0 : bits .or .u64 0 b0 = b0 := by have := or_u64_byte 0 b0 (by omega) hd0; simpa using this
  obtain ⟨b1, hb1, hc1, hd1⟩ : ∃ b : Int, ((s[a + 1]'(by omega)).toNat : Int) = b ∧ b = byteAt s (a + 1) ∧ (0 ≤ b ∧ b < 256) := ⟨_, byteAt_is s (a + 1) (by omega), rfl, byteAt_bd _ _⟩
  have hw1 : IntKind.u64.wrap b1 = b1 := IntWalk.u64_in _ (by omega)
  obtain ⟨p2, hp2, hq2⟩ : ∃ p : Int, p = b0 * 256 + b1 ∧ (0 ≤ p ∧ p < 65536) := ⟨_, rfl, by omega⟩
  have hor1 : bits .or .u64 (b0 * 256) b1 = p2 := by rw [hp2]; exact or_u64_byte _ _ (by omega) hd1
  obtain ⟨b2, hb2, hc2, hd2⟩ : ∃ b : Int, ((s[a + 2]'(by omega)).toNat : Int) = b ∧ b = byteAt s (a + 2) ∧ (0 ≤ b ∧ b < 256) := ⟨_, byteAt_is s (a + 2) (by omega), rfl, byteAt_bd _ _⟩
  have hw2 : IntKind.u64.wrap b2 = b2 := IntWalk.u64_in _ (by omega)
  obtain ⟨p3, hp3, hq3⟩ : ∃ p : Int, p = p2 * 256 + b2 ∧ (0 ≤ p ∧ p < 16777216) := ⟨_, rfl, by omega⟩
  have hor2 : bits .or .u64 (p2 * 256) b2 = p3 := by rw [hp3]; exact or_u64_byte _ _ (by omega) hd2
  obtain ⟨b3, hb3, hc3, hd3⟩ : ∃ b : Int, ((s[a + 3]'(by omega)).toNat : Int) = b ∧ b = byteAt s (a + 3) ∧ (0 ≤ b ∧ b < 256) := ⟨_, byteAt_is s (a + 3) (by omega), rfl, byteAt_bd _ _⟩
  have hw3 : IntKind.u64.wrap b3 = b3 := IntWalk.u64_in _ (by omega)
  obtain ⟨p4, hp4, hq4⟩ : ∃ p : Int, p = p3 * 256 + b3 ∧ (0 ≤ p ∧ p < 4294967296) := ⟨_, rfl, by omega⟩
  have hor3 : bits .or .u64 (p3 * 256) b3 = p4 := by rw [hp4]; exact or_u64_byte _ _ (by omega) hd3
  obtain ⟨b4, hb4, hc4, hd4⟩ : ∃ b : Int, ((s[a + 4]'(by omega)).toNat : Int) = b ∧ b = byteAt s (a + 4) ∧ (0 ≤ b ∧ b < 256) := ⟨_, byteAt_is s (a + 4) (by omega), rfl, byteAt_bd _ _⟩
  have hw4 : IntKind.u64.wrap b4 = b4 := IntWalk.u64_in _ (by omega)
  obtain ⟨p5, hp5, hq5⟩ : ∃ p : Int, p = p4 * 256 + b4 ∧ (0 ≤ p ∧ p < 1099511627776) := ⟨_, rfl, by omega⟩
  have hor4 : bits .or .u64 (p4 * 256) b4 = p5 := by rw [hp5]; exact or_u64_byte _ _ (by omega) hd4
  obtain ⟨b5, hb5, hc5, hd5⟩ : ∃ b : Int, ((s[a + 5]'(by omega)).toNat : Int) = b ∧ b = byteAt s (a + 5) ∧ (0 ≤ b ∧ b < 256) := ⟨_, byteAt_is s (a + 5) (by omega), rfl, byteAt_bd _ _⟩
  have hw5 : IntKind.u64.wrap b5 = b5 := IntWalk.u64_in _ (by omega)
  obtain ⟨p6, hp6, hq6⟩ : ∃ p : Int, p = p5 * 256 + b5 ∧ (0 ≤ p ∧ p < 281474976710656) := ⟨_, rfl, by omega⟩
  have hor5 : bits .or .u64 (p5 * 256) b5 = p6 := by rw [hp6]; exact or_u64_byte _ _ (by omega) hd5
  obtain ⟨b6, hb6, hc6, hd6⟩ : ∃ b : Int, ((s[a + 6]'(by omega)).toNat : Int) = b ∧ b = byteAt s (a + 6) ∧ (0 ≤ b ∧ b < 256) := ⟨_, byteAt_is s (a + 6) (by omega), rfl, byteAt_bd _ _⟩
  have hw6 : IntKind.u64.wrap b6 = b6 := IntWalk.u64_in _ (by omega)
  obtain ⟨p7, hp7, hq7⟩ : ∃ p : Int, p = p6 * 256 + b6 ∧ (0 ≤ p ∧ p < 72057594037927936) := ⟨_, rfl, by omega⟩
  have hor6 : bits .or .u64 (p6 * 256) b6 = p7 := by rw [hp7]; exact or_u64_byte _ _ (by omega) hd6
  obtain ⟨b7, hb7, hc7, hd7⟩ : ∃ b : Int, ((s[a + 7]'(by omega)).toNat : Int) = b ∧ b = byteAt s (a + 7) ∧ (0 ≤ b ∧ b < 256) := ⟨_, byteAt_is s (a + 7) (by omega), rfl, byteAt_bd _ _⟩
  have hw7 : IntKind.u64.wrap b7 = b7 := IntWalk.u64_in _ (by omega)
  obtain ⟨p8, hp8, hq8⟩ : ∃ p : Int, p = p7 * 256 + b7 ∧ (0 ≤ p ∧ p < 18446744073709551616) := ⟨_, rfl, by omega⟩
  have hor7 : bits .or .u64 (p7 * 256) b7 = p8 := by rw [hp8]; exact or_u64_byte _ _ (by omega) hd7
  have hres : numAt s a 8 = p8 := by simp only [numAt, Nat.add_zero, ← hc0, ← hc1, ← hc2, ← hc3, ← hc4, ← hc5, ← hc6, ← hc7]; omega
  rw [hres]
  clear hres hc0 hc1 hc2 hc3 hc4 hc5 hc6 hc7 hp2 hp3 hp4 hp5 hp6 hp7 hp8
  subst hx
  go_enter Try.func86, Try.ntmps86
  go_wp2_with fail
  refine (wide_calls 8 _ (by omega) (by omega)).mono ?_
  rintro e w' ⟨rfl, rfl⟩
  go_wp2_with fail
  refine wp_loop_rounds 9 ?_
  rw [rounds_succ]; go_wp2_with fail
  rw [rounds_succ]; go_wp2_with fail
  rw [rounds_succ]; go_wp2_with fail
  rw [rounds_succ]; go_wp2_with fail
  rw [rounds_succ]; go_wp2_with fail
  rw [rounds_succ]; go_wp2_with fail
  rw [rounds_succ]; go_wp2_with fail
  rw [rounds_succ]; go_wp2_with fail
  rw [rounds_succ]; go_wp2_with fail
  exact bodyPost_ret (v := .tuple #[.int .u64 p8, .bool true]) (by simp [results, Try.results86, go_sem]) rfl ⟨rfl, Below.refl _ _⟩
end Go.Proofs.Ytcipdimnbleljaa
