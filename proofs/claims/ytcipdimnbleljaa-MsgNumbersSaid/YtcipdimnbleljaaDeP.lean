/-
  Layer 18 (msg): what is read of bytes, as a plain value. No program in sight.
-/
import Derived.Test.YtcipdimnbleljaaMayL
namespace Go.Proofs.Ytcipdimnbleljaa
open Go.RowKit
open Extern.Stop (cell)

def stp (s : ByteArray) (x : Nat × Bool) (k : Nat) : Nat × Bool := (rdAt s x.1 x.2 k, rdBad s x.1 x.2 k)
def stps (s : ByteArray) (x : Nat × Bool) (ks : List Nat) : Nat × Bool := ks.foldl (stp s) x
theorem bad_ok {s : ByteArray} {a k : Nat} (h : a + k ≤ s.size) : rdBad s a false k = false := by unfold rdBad; simp; omega
theorem bad_no {s : ByteArray} {a k : Nat} (h : s.size < a + k) : rdBad s a false k = true := by unfold rdBad; simp; omega
theorem bad_tr (s : ByteArray) (a k : Nat) : rdBad s a true k = true := by unfold rdBad; simp
theorem at_ok {s : ByteArray} {a k : Nat} (h : a + k ≤ s.size) : rdAt s a false k = a + k := by unfold rdAt; rw [bad_ok h]; rfl
theorem num_ok {s : ByteArray} {a k : Nat} (h : a + k ≤ s.size) : rdNum s a false k = numAt s a k := by unfold rdNum; rw [bad_ok h]; rfl
theorem stp_ok {s : ByteArray} {a k : Nat} (h : a + k ≤ s.size) : stp s (a, false) k = (a + k, false) := by unfold stp; rw [at_ok h, bad_ok h]
theorem stps_tr (s : ByteArray) (ks : List Nat) : ∀ x : Nat × Bool, x.2 = true → (stps s x ks).2 = true := by
  induction ks with
  | nil => exact fun x h => h
  | cons k r ih =>
    intro x h
    refine ih (stp s x k) ?_
    show rdBad s x.1 x.2 k = true
    rw [h]
    exact bad_tr s x.1 k
theorem stps_ok {s : ByteArray} (ks : List Nat) : ∀ a : Nat, a + ks.sum ≤ s.size → stps s (a, false) ks = (a + ks.sum, false) := by
  induction ks with
  | nil => intro a _; rfl
  | cons k r ih =>
    intro a h
    rw [List.sum_cons] at h ⊢
    show stps s (stp s (a, false) k) r = _
    rw [stp_ok (by omega), ih (a + k) (by omega), Nat.add_assoc]
theorem stps_no {s : ByteArray} (ks : List Nat) : ∀ a : Nat, a ≤ s.size → s.size < a + ks.sum → (stps s (a, false) ks).2 = true := by
  induction ks with
  | nil => intro a h0 h; simp at h; omega
  | cons k r ih =>
    intro a h0 h
    rw [List.sum_cons] at h
    show (stps s (stp s (a, false) k) r).2 = true
    by_cases hk : a + k ≤ s.size
    · rw [stp_ok hk]
      exact ih (a + k) hk (by omega)
    · exact stps_tr s r _ (bad_no (by omega))
theorem stps_append (s : ByteArray) (x : Nat × Bool) (a b : List Nat) : stps s x (a ++ b) = stps s (stps s x a) b := List.foldl_append
theorem rqA_eq (s : ByteArray) (a : Nat) (bad : Bool) (n : Nat) : rqA s a bad n = stps s (a, bad) ((List.range n).map rqW) := by
  induction n with
  | zero => rfl
  | succ n ih => rw [List.range_succ, List.map_append, stps_append, ← ih]; rfl
theorem dgA_eq (s : ByteArray) (a : Nat) (bad : Bool) (n : Nat) : dgA s a bad n = stps s (a, bad) (List.replicate n 1) := by
  induction n with
  | zero => rfl
  | succ n ih => rw [List.replicate_succ', stps_append, ← ih]; rfl
theorem mrA_eq (s : ByteArray) (a : Nat) (bad : Bool) (n : Nat) : mrA s a bad n = stps s (a, bad) (List.replicate (1 + 33 * n) 1) := by
  induction n with
  | zero => rfl
  | succ n ih =>
    rw [show 1 + 33 * (n + 1) = (1 + 33 * n) + (1 + 32) by omega, ← List.replicate_append_replicate, stps_append, ← ih]
    show dgA s _ _ 32 = _
    rw [dgA_eq]
    rfl
def wOff (i : Nat) : Nat := ((List.range i).map rqW).sum
theorem rep_sum (n : Nat) : (List.replicate n 1).sum = n := by simp
theorem wOff_le {i : Nat} (h : i < 10) : wOff i + rqW i ≤ 28 := by
  match i, h with
  | 0, _ => decide
  | 1, _ => decide
  | 2, _ => decide
  | 3, _ => decide
  | 4, _ => decide
  | 5, _ => decide
  | 6, _ => decide
  | 7, _ => decide
  | 8, _ => decide
  | 9, _ => decide
  | i + 10, h => exact absurd h (by omega)
theorem rqV_ok {s : ByteArray} {a : Nat} (h : a + 28 ≤ s.size) {i : Nat} (hi : i < 10) : rqV s a false i = numAt s (a + wOff i) (rqW i) := by
  have := wOff_le hi
  unfold rqV
  rw [rqA_eq, stps_ok _ _ (by show a + wOff i ≤ _; omega)]
  exact num_ok (by show a + wOff i + rqW i ≤ _; omega)
theorem dgV_ok {s : ByteArray} {a i n : Nat} (h : a + n ≤ s.size) (hi : i < n) : dgV s a false i = byteAt s (a + i) := by
  unfold dgV
  rw [dgA_eq, stps_ok _ _ (by rw [rep_sum]; omega), rep_sum]
  show rdNum s (a + i) false 1 = _
  rw [num_ok (by omega)]
  show numAt s (a + i) 0 * 256 + byteAt s (a + i + 0) = _
  rw [numAt]
  simp
/-- so many bytes from a place on -/
def byB (b : ByteArray) (o n : Nat) : List UInt8 := (List.range n).map fun i => b[o + i]?.getD 0
theorem byB_length (b : ByteArray) (o n : Nat) : (byB b o n).length = n := by simp [byB]
theorem byB_getD (b : ByteArray) (o n i : Nat) (h : i < n) : cell ((byB b o n).getD i 0) = .int .u8 (byteAt b (o + i)) := by
  have e : (byB b o n).getD i 0 = b[o + i]?.getD 0 := by simp [byB, List.getD_eq_getElem?_getD, h]
  rw [e]
  rfl
/-- how many numbers' bytes a body of a kind has -/
def widS (k : Int) (b : ByteArray) : Nat :=
  if k = 1 then 34 else if k = 2 then 34 else if k = 3 then (if b.size < 2 then 2 else 2 + 33 * (numAt b 1 1).toNat) else if k = 4 then 18 else 11
/-- the message that a body of a kind reads as -/
def decM (k : Int) (b : ByteArray) (p : Option Addr) : MV where
  kind := k
  round := numAt b 0 1
  carrier := if k = 2 ∨ k = 4 then numAt b 1 1 else 0
  req := if k = 1 then numAt b 1 1 else 0
  reserve := if k = 1 then numAt b 2 4 else 0
  rq := fun i => if k = 1 then numAt b (6 + wOff i) (rqW i) else 0
  dg := if k = 2 then byB b 2 32 else dg0
  ms := if k = 3 then (List.range (numAt b 1 1).toNat).map fun j => (numAt b (2 + 33 * j) 1, byB b (3 + 33 * j) 32) else []
  cap := if k = 3 then (numAt b 1 1).toNat else 0
  p := if k = 3 then p else none
  bid := if k = 4 then numAt b 2 8 else 0
  nonce := if k = 4 then numAt b 10 8 else 0
  state := if k = 5 then numAt b 1 1 else 0
  winner := if k = 5 then numAt b 2 1 - 1 else 0
  price := if k = 5 then numAt b 3 8 else 0
/-- no message -/
def zeroM : MV where
  kind := 0
  round := 0
  carrier := 0
  req := 0
  reserve := 0
  rq := fun _ => 0
  dg := dg0
  ms := []
  cap := 0
  p := none
  bid := 0
  nonce := 0
  state := 0
  winner := 0
  price := 0
end Go.Proofs.Ytcipdimnbleljaa
