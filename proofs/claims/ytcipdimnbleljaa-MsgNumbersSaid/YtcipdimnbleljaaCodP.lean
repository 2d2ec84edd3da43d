/-
  Layer 18 (msg): a message's numbers and their widths; the bytes. No program in sight.
-/
import Derived.Test.YtcipdimnbleljaaWr
import Derived.Test.YtcipdimnbleljaaMayP
namespace Go.Proofs.Ytcipdimnbleljaa
open Go.RowKit
open Extern.Stop (cell)

/-- bytes as numbers -/
def byN (l : List UInt8) : List Int := l.map fun b => (b.toNat : Int)
theorem byN_length (l : List UInt8) : (byN l).length = l.length := by simp [byN]
theorem byN_bd (l : List UInt8) : ∀ x ∈ byN l, 0 ≤ x ∧ x < 256 := by
  intro x hx
  simp only [byN, List.mem_map] at hx
  obtain ⟨b, _, rfl⟩ := hx
  have := b.toNat_lt
  omega
theorem byN_getD (l : List UInt8) (i : Nat) : (byN l).getD i 0 = ((l.getD i 0).toNat : Int) := by
  simp only [byN, List.getD_eq_getElem?_getD, List.getElem?_map]
  cases l[i]? <;> rfl
def ones (l : List UInt8) : List (Int × Nat) := l.map fun b => ((b.toNat : Int), 1)
/-- what is laid of a message: numbers and widths -/
def numsOf (m : MV) : List (Int × Nat) :=
  (m.round, 1) :: (if m.kind = 1 then (m.req, 1) :: (m.reserve, 4) :: (List.range 10).map fun i => (m.rq i, rqW i)
    else if m.kind = 2 then (m.carrier, 1) :: ones m.dg
    else if m.kind = 3 then ((m.ms.length : Int), 1) :: m.ms.flatMap fun x => (x.1, 1) :: ones x.2
    else if m.kind = 4 then [(m.carrier, 1), (m.bid, 8), (m.nonce, 8)]
    else [(m.state, 1), (m.winner + 1, 1), (m.price, 8)])
def wrN (ns : List (Int × Nat)) : List Int := ns.flatMap fun x => be x.1 x.2
def addS (s : ByteArray) (ns : List (Int × Nat)) : ByteArray := ns.foldl (fun s x => addN s x.1 x.2) s
theorem addS_eq (ns : List (Int × Nat)) : ∀ s, addS s ns = s ++ strOfNums (wrN ns) := by
  induction ns with
  | nil => intro s; simp [addS, wrN, strOfNums_nil]
  | cons x r ih =>
    intro s
    have e : addS s (x :: r) = addS (addN s x.1 x.2) r := rfl
    rw [e, ih, addN, ByteArray.append_assoc, ← strOfNums_append]
    rfl
theorem addS_append (s : ByteArray) (a b : List (Int × Nat)) : addS s (a ++ b) = addS (addS s a) b := List.foldl_append
def bodyS (m : MV) : ByteArray := strOfNums (wrN (numsOf m))
theorem be_one (n : Int) (h : 0 ≤ n ∧ n < 256) : be n 1 = [n] := by
  show [n % 256] = [n]
  rw [Int.emod_eq_of_lt h.1 h.2]
theorem addS_ones (l : List UInt8) : ∀ s, addS s (ones l) = s ++ strOfNums (byN l) := by
  induction l with
  | nil => intro s; simp [addS, ones, byN, strOfNums_nil]
  | cons b r ih =>
    intro s
    have e : addS s (ones (b :: r)) = addS (addN s b.toNat 1) (ones r) := rfl
    have hb := b.toNat_lt
    rw [e, ih, addN, ByteArray.append_assoc, be_one _ ⟨by omega, by omega⟩, ← strOfNums_append]
    rfl
theorem rqStr_eq (s : ByteArray) (x : Nat → Int) (k : Nat) : rqStr s x k = addS s ((List.range k).map fun i => (x i, rqW i)) := by
  induction k with
  | zero => rfl
  | succ k ih => rw [List.range_succ, List.map_append, addS_append, ← ih]; rfl
theorem mkStr_eq (ms : List (Int × List UInt8)) (s : ByteArray) (k : Nat) (hk : k ≤ ms.length) :
    mkStr s (fun i => (ms.getD i (0, [])).1) (fun i => byN (ms.getD i (0, [])).2) k = addS s ((ms.take k).flatMap fun x => (x.1, 1) :: ones x.2) := by
  induction k with
  | zero => rfl
  | succ k ih =>
    have hlt : k < ms.length := by omega
    rw [mkStr, ih (by omega), List.take_succ_eq_append_getElem hlt, List.flatMap_append, addS_append]
    have e : ms.getD k (0, []) = ms[k] := by simp [List.getD_eq_getElem?_getD, hlt]
    rw [e]
    show _ = addS _ ((ms[k].1, 1) :: ones ms[k].2 ++ [])
    rw [List.append_nil]
    show _ = addS (addN _ ms[k].1 1) (ones ms[k].2)
    rw [addS_ones]
end Go.Proofs.Ytcipdimnbleljaa
