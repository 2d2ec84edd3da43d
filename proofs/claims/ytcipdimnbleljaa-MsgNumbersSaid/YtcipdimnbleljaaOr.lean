/-
  Bits: 'a | b == 0'. Of no program.
-/
import Derived.Test.YtcipdimnbleljaaBase
namespace Go.Proofs.Ytcipdimnbleljaa
open Go.RowKit

theorem or_eq_zero_iff (a b : BitVec 64) : a ||| b = 0#64 ↔ a = 0#64 ∧ b = 0#64 := by
  constructor
  · intro h
    have h1 := congrArg BitVec.toNat h
    rw [BitVec.toNat_or] at h1
    have h2 : a.toNat ||| b.toNat = 0 := by simpa using h1
    have ha : a.toNat = 0 := by
      have := Nat.left_le_or (n := a.toNat) (m := b.toNat); omega
    have hb : b.toNat = 0 := by
      have := Nat.right_le_or (n := a.toNat) (m := b.toNat); omega
    exact ⟨BitVec.eq_of_toNat_eq (by simpa using ha), BitVec.eq_of_toNat_eq (by simpa using hb)⟩
  · rintro ⟨rfl, rfl⟩; simp

theorem ofInt_zero (a : Int) (h : -9223372036854775808 ≤ a ∧ a < 18446744073709551616) (h' : BitVec.ofInt 64 a = 0#64) : a = 0 := by
  have h1 := congrArg BitVec.toNat h'
  rw [BitVec.toNat_ofInt] at h1
  simp at h1
  omega

theorem or_i64_zero (a b : Int) (ha : -9223372036854775808 ≤ a ∧ a < 9223372036854775808) (hb : -9223372036854775808 ≤ b ∧ b < 9223372036854775808) :
    bits .or .i64 a b = 0 ↔ a = 0 ∧ b = 0 := by
  constructor
  · intro h
    have h1 : IntKind.i64.wrap ((BitVec.ofInt 64 a ||| BitVec.ofInt 64 b).toNat : Int) = 0 := h
    have hlt := (BitVec.ofInt 64 a ||| BitVec.ofInt 64 b).isLt
    have h2 : BitVec.ofInt 64 a ||| BitVec.ofInt 64 b = 0#64 := by
      apply BitVec.eq_of_toNat_eq
      generalize (BitVec.ofInt 64 a ||| BitVec.ofInt 64 b).toNat = n at h1 hlt
      rw [IntKind.wrap_i64] at h1
      simp
      omega
    obtain ⟨h3, h4⟩ := (or_eq_zero_iff _ _).1 h2
    exact ⟨ofInt_zero a (by omega) h3, ofInt_zero b (by omega) h4⟩
  · rintro ⟨rfl, rfl⟩; decide
theorem or_u64_zero (a b : Int) (ha : 0 ≤ a ∧ a < 18446744073709551616) (hb : 0 ≤ b ∧ b < 18446744073709551616) :
    bits .or .u64 a b = 0 ↔ a = 0 ∧ b = 0 := by
  constructor
  · intro h
    have h1 : IntKind.u64.wrap ((BitVec.ofInt 64 a ||| BitVec.ofInt 64 b).toNat : Int) = 0 := h
    have hlt := (BitVec.ofInt 64 a ||| BitVec.ofInt 64 b).isLt
    have h2 : BitVec.ofInt 64 a ||| BitVec.ofInt 64 b = 0#64 := by
      apply BitVec.eq_of_toNat_eq
      generalize (BitVec.ofInt 64 a ||| BitVec.ofInt 64 b).toNat = n at h1 hlt
      rw [IntWalk.u64_in _ (by omega)] at h1
      simp
      omega
    obtain ⟨h3, h4⟩ := (or_eq_zero_iff _ _).1 h2
    exact ⟨ofInt_zero a (by omega) h3, ofInt_zero b (by omega) h4⟩
  · rintro ⟨rfl, rfl⟩; decide
/-- '|' stays in its range -/
theorem or_i64_rg (a b : Int) : -9223372036854775808 ≤ bits .or .i64 a b ∧ bits .or .i64 a b < 9223372036854775808 := by
  have h1 : bits .or .i64 a b = IntKind.i64.wrap ((BitVec.ofInt 64 a ||| BitVec.ofInt 64 b).toNat : Int) := rfl
  rw [h1, IntKind.wrap_i64]
  omega
end Go.Proofs.Ytcipdimnbleljaa
