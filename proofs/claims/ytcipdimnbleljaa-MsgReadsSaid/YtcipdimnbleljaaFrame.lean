/-
  Layer 17 (frame): what each function of the program and of the reference returns, said of plain functions on bytes.
-/
import Derived.Test.YtcipdimnbleljaaBase
namespace Go.Proofs.Ytcipdimnbleljaa
open Go.RowKit

/-! ### Plain functions -/
namespace Frm
/-- the error of laying -/
def layE (k : Int) (s : ByteArray) : Int := if k < 0 ∨ 255 < k then 2 else if 65535 < s.size then 3 else 0
def layS (k : Int) (s : ByteArray) : ByteArray := if layE k s = 0 then strOfNums [k, (s.size : Int) / 256, (s.size : Int) % 256] ++ s else ByteArray.empty
/-- the length that a head tells -/
def len (s : ByteArray) : Nat := if h : 3 ≤ s.size then 256 * s[1].toNat + s[2].toNat else 0
def ok (s : ByteArray) : Bool := decide (3 ≤ s.size ∧ 3 + len s ≤ s.size)
def splE (s : ByteArray) : Int := if ok s = true then 0 else 14
def splK (s : ByteArray) : Int := if h : ok s = true then (s[0]'(by simp [ok] at h; omega)).toNat else 0
def splB (s : ByteArray) : ByteArray := if ok s = true then s.extract 3 (3 + len s) else ByteArray.empty
def splR (s : ByteArray) : ByteArray := if ok s = true then s.extract (3 + len s) s.size else ByteArray.empty
theorem len_lt (s : ByteArray) : len s ≤ 65535 := by
  unfold len; split
  · rename_i h
    have a := s[1].toNat_lt; have b := s[2].toNat_lt
    omega
  · omega
theorem ok_of (s : ByteArray) (h : ok s = true) : 3 ≤ s.size ∧ 3 + len s ≤ s.size := by simpa [ok] using h
theorem not_ok (s : ByteArray) (h : ok s = false) : s.size < 3 ∨ s.size < 3 + len s := by simp [ok] at h; omega
end Frm
open Frm

set_option maxHeartbeats 400000 in
set_option maxRecDepth 100000 in
theorem lay_calls (k : Int) (s : ByteArray) (w : World) (hs : s.size ≤ maxLen) :
    Calls Try.prog 29 #[.int .i64 k, .string s] w fun e w' => e = .returned (.tuple #[.string (layS k s), .int .i64 (layE k s)]) ∧ Below w.heap.size w w' := by
  unfold maxLen at hs
  by_cases h : k < 0 ∨ 255 < k
  · have e1 : layE k s = 2 := by simp [layE, h]
    have e2 : layS k s = ByteArray.empty := by simp [layS, e1]
    rw [e1, e2]
    rcases h with h | h
    · clear e1 e2
      go_enter Try.func29, Try.ntmps29
      go_wp2
      go_ret2
      exact ⟨rfl, Below.refl _ _⟩
    · have h' : ¬ k < 0 := by omega
      clear e1 e2
      go_enter Try.func29, Try.ntmps29
      go_wp2
      go_ret2
      exact ⟨rfl, Below.refl _ _⟩
  · have h0 : 0 ≤ k := by omega
    have h1 : k ≤ 255 := by omega
    by_cases h2 : 65535 < s.size
    · have e1 : layE k s = 3 := by simp [layE, h, h2]
      have e2 : layS k s = ByteArray.empty := by simp [layS, e1]
      rw [e1, e2]
      clear e1 e2 h
      have h3 : (65535 : Int) < s.size := by omega
      go_enter Try.func29, Try.ntmps29
      go_wp2
      go_ret2
      exact ⟨rfl, Below.refl _ _⟩
    · have e1 : layE k s = 0 := by simp [layE, h, h2]
      have e2 : layS k s = strOfNums [k, (s.size : Int) / 256, (s.size : Int) % 256] ++ s := by simp [layS, e1]
      rw [e1, e2]
      clear e1 e2 h
      have h3 : (s.size : Int) ≤ 65535 := by omega
      have hc := run_convert_bytes_arg (P := Try.prog) (w.alloc (.cells #[.int .u8 k, .int .u8 ((s.size : Int) / 256), .int .u8 ((s.size : Int) % 256)] 108)) 26 5 Try.underlying26 Try.underlying5 w.heap.size 0 3 3 [k, (s.size : Int) / 256, (s.size : Int) % 256] rfl
        (by intro i hi; rw [World.cell?_alloc_new]; rcases i with _ | _ | _ | i <;> first | rfl | omega) 9 Try.underlying9
      have hsz : (strOfNums [k, (s.size : Int) / 256, (s.size : Int) % 256]).size = 3 := rfl
      go_enter Try.func29, Try.ntmps29
      go_wp2
      go_ret2
      exact ⟨rfl, (Below.refl _ _).alloc (Nat.le_refl _) _⟩


end Go.Proofs.Ytcipdimnbleljaa
