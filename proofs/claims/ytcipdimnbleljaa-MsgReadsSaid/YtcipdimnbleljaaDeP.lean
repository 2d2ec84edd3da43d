/-
  Layer 18 (msg): a message's numbers and their widths; the bytes. No program in sight.
  Layer 18 (msg): what a message that may be is like. No program in sight.
  Layer 18 (msg): what is read of bytes, as a plain value. No program in sight.
-/
import Derived.Test.YtcipdimnbleljaaWr
import Derived.Test.YtcipdimnbleljaaMay0
namespace Go.Proofs.Ytcipdimnbleljaa
open Go.RowKit
open Extern.Stop (cell)

/-- bytes as numbers -/
def byN (l : List UInt8) : List Int := l.map fun b => (b.toNat : Int)
theorem byN_length (l : List UInt8) : (byN l).length = l.length := by simp [byN]
theorem byN_bd (l : List UInt8) : ∀ x ∈ byN l, 0 ≤ x ∧ x < 256 := by
  intro x hx
  simp only [byN, List.mem_map] at hx
  obtain ⟨b, _, rfl⟩ := hx
  have := b.toNat_lt
  omega
theorem byN_getD (l : List UInt8) (i : Nat) : (byN l).getD i 0 = ((l.getD i 0).toNat : Int) := by
  simp only [byN, List.getD_eq_getElem?_getD, List.getElem?_map]
  cases l[i]? <;> rfl
def ones (l : List UInt8) : List (Int × Nat) := l.map fun b => ((b.toNat : Int), 1)
/-- what is laid of a message: numbers and widths -/
def numsOf (m : MV) : List (Int × Nat) :=
  (m.round, 1) :: (if m.kind = 1 then (m.req, 1) :: (m.reserve, 4) :: (List.range 10).map fun i => (m.rq i, rqW i)
    else if m.kind = 2 then (m.carrier, 1) :: ones m.dg
    else if m.kind = 3 then ((m.ms.length : Int), 1) :: m.ms.flatMap fun x => (x.1, 1) :: ones x.2
    else if m.kind = 4 then [(m.carrier, 1), (m.bid, 8), (m.nonce, 8)]
    else [(m.state, 1), (m.winner + 1, 1), (m.price, 8)])
def wrN (ns : List (Int × Nat)) : List Int := ns.flatMap fun x => be x.1 x.2
def addS (s : ByteArray) (ns : List (Int × Nat)) : ByteArray := ns.foldl (fun s x => addN s x.1 x.2) s
theorem addS_eq (ns : List (Int × Nat)) : ∀ s, addS s ns = s ++ strOfNums (wrN ns) := by
  induction ns with
  | nil => intro s; simp [addS, wrN, strOfNums_nil]
  | cons x r ih =>
    intro s
    have e : addS s (x :: r) = addS (addN s x.1 x.2) r := rfl
    rw [e, ih, addN, ByteArray.append_assoc, ← strOfNums_append]
    rfl
theorem addS_append (s : ByteArray) (a b : List (Int × Nat)) : addS s (a ++ b) = addS (addS s a) b := List.foldl_append
def bodyS (m : MV) : ByteArray := strOfNums (wrN (numsOf m))
theorem be_one (n : Int) (h : 0 ≤ n ∧ n < 256) : be n 1 = [n] := by
  show [n % 256] = [n]
  rw [Int.emod_eq_of_lt h.1 h.2]
theorem addS_ones (l : List UInt8) : ∀ s, addS s (ones l) = s ++ strOfNums (byN l) := by
  induction l with
  | nil => intro s; simp [addS, ones, byN, strOfNums_nil]
  | cons b r ih =>
    intro s
    have e : addS s (ones (b :: r)) = addS (addN s b.toNat 1) (ones r) := rfl
    have hb := b.toNat_lt
    rw [e, ih, addN, ByteArray.append_assoc, be_one _ ⟨by omega, by omega⟩, ← strOfNums_append]
    rfl
theorem rqStr_eq (s : ByteArray) (x : Nat → Int) (k : Nat) : rqStr s x k = addS s ((List.range k).map fun i => (x i, rqW i)) := by
  induction k with
  | zero => rfl
  | succ k ih => rw [List.range_succ, List.map_append, addS_append, ← ih]; rfl
theorem mkStr_eq (ms : List (Int × List UInt8)) (s : ByteArray) (k : Nat) (hk : k ≤ ms.length) :
    mkStr s (fun i => (ms.getD i (0, [])).1) (fun i => byN (ms.getD i (0, [])).2) k = addS s ((ms.take k).flatMap fun x => (x.1, 1) :: ones x.2) := by
  induction k with
  | zero => rfl
  | succ k ih =>
    have hlt : k < ms.length := by omega
    rw [mkStr, ih (by omega), List.take_succ_eq_append_getElem hlt, List.flatMap_append, addS_append]
    have e : ms.getD k (0, []) = ms[k] := by simp [List.getD_eq_getElem?_getD, hlt]
    rw [e]
    show _ = addS _ ((ms[k].1, 1) :: ones ms[k].2 ++ [])
    rw [List.append_nil]
    show _ = addS (addN _ ms[k].1 1) (ones ms[k].2)
    rw [addS_ones]
end Go.Proofs.Ytcipdimnbleljaa
namespace Go.Proofs.Ytcipdimnbleljaa
open Go.RowKit
open Extern.Stop (cell)

theorem inB_true {n m : Int} (h : inB n m = true) : 0 ≤ n ∧ n < m := of_decide_eq_true h
theorem riseB_len : ∀ (r : List (Int × List UInt8)) (x : Int × List UInt8), riseB (x :: r) = true → 0 ≤ x.1 ∧ x.1 + r.length ≤ 7
  | [], x, h => by
    have := inB_true (n := x.1) (m := 8) h
    simp
    omega
  | y :: r, x, h => by
    simp only [riseB, Bool.and_eq_true, decide_eq_true_eq] at h
    have h1 := inB_true h.1.1
    have h2 := riseB_len r y h.2
    simp only [List.length_cons]
    omega
theorem riseB_all : ∀ (l : List (Int × List UInt8)), riseB l = true → ∀ x ∈ l, 0 ≤ x.1 ∧ x.1 < 8
  | [], _, x, hx => by cases hx
  | [y], h, x, hx => by
    rw [List.mem_singleton] at hx
    subst hx
    exact inB_true h
  | y :: z :: r, h, x, hx => by
    simp only [riseB, Bool.and_eq_true, decide_eq_true_eq] at h
    rcases List.mem_cons.1 hx with e | hx
    · subst e; exact inB_true h.1.1
    · exact riseB_all (z :: r) h.2 x hx
theorem riseB_le8 {l : List (Int × List UInt8)} (h : riseB l = true) : l.length ≤ 8 := by
  cases l with
  | nil => simp
  | cons x r =>
    have := riseB_len r x h
    simp only [List.length_cons]
    omega
theorem ckB_rg {rq : Nat → Int} (h : ckB rq = true) : ∀ i, i < 10 → 0 ≤ rq i ∧ rq i < 256 ^ rqW i := by
  have h0 : rqCode (rq 0) (rq 1) (rq 2) (rq 3) (rq 4) (rq 5) (rq 6) (rq 7) (rq 8) (rq 9) = 0 := of_decide_eq_true h
  unfold rqCode firstC at h0
  by_cases a : (plB (rq 0) (rq 1) && plB (rq 2) (rq 3)) = true
  · by_cases b : (wiB (rq 4) (rq 5) && wiB (rq 6) (rq 7)) = true
    · by_cases c : (decide (1 ≤ rq 8 ∧ rq 8 ≤ 1000) && decide (0 ≤ rq 9 ∧ rq 9 ≤ 1000)) = true
      · simp only [Bool.and_eq_true, plB, wiB, decide_eq_true_eq] at a b c
        intro i hi
        match i, hi with
        | 0, _ => exact ⟨by omega, by show rq 0 < 256 ^ 2; omega⟩
        | 1, _ => exact ⟨by omega, by show rq 1 < 256 ^ 2; omega⟩
        | 2, _ => exact ⟨by omega, by show rq 2 < 256 ^ 2; omega⟩
        | 3, _ => exact ⟨by omega, by show rq 3 < 256 ^ 2; omega⟩
        | 4, _ => exact ⟨by omega, by show rq 4 < 256 ^ 4; omega⟩
        | 5, _ => exact ⟨by omega, by show rq 5 < 256 ^ 4; omega⟩
        | 6, _ => exact ⟨by omega, by show rq 6 < 256 ^ 4; omega⟩
        | 7, _ => exact ⟨by omega, by show rq 7 < 256 ^ 4; omega⟩
        | 8, _ => exact ⟨by omega, by show rq 8 < 256 ^ 2; omega⟩
        | 9, _ => exact ⟨by omega, by show rq 9 < 256 ^ 2; omega⟩
        | i + 10, hi => exact absurd hi (by omega)
      · rw [a, b, Bool.not_eq_true _ |>.mp c] at h0; exact absurd h0 (by decide)
    · rw [a, Bool.not_eq_true _ |>.mp b] at h0; simp at h0
  · rw [Bool.not_eq_true _ |>.mp a] at h0; simp at h0
theorem may_kind {m : MV} (h : mayB m = true) : m.kind = 1 ∨ m.kind = 2 ∨ m.kind = 3 ∨ m.kind = 4 ∨ m.kind = 5 := by
  unfold mayB at h
  by_cases h1 : m.kind = 1
  · exact .inl h1
  · by_cases h2 : m.kind = 2
    · exact .inr (.inl h2)
    · by_cases h3 : m.kind = 3
      · exact .inr (.inr (.inl h3))
      · by_cases h4 : m.kind = 4
        · exact .inr (.inr (.inr (.inl h4)))
        · by_cases h5 : m.kind = 5
          · exact .inr (.inr (.inr (.inr h5)))
          · simp [h1, h2, h3, h4, h5] at h
theorem may_round {m : MV} (h : mayB m = true) : 0 ≤ m.round ∧ m.round < 16 := by
  unfold mayB at h
  rw [Bool.and_eq_true] at h
  exact inB_true h.1
theorem may_1 {m : MV} (h : mayB m = true) (hk : m.kind = 1) : (0 ≤ m.req ∧ m.req < 64) ∧ (0 ≤ m.reserve ∧ m.reserve < 16777217) ∧ ckB m.rq = true ∧ m.carrier = 0 ∧ m.bid = 0 ∧ m.nonce = 0 ∧ m.ms = [] ∧ dgZ m.dg = true ∧ outZ m = true := by
  unfold mayB at h
  rw [if_pos hk] at h
  simp only [Bool.and_eq_true, decide_eq_true_eq] at h
  obtain ⟨_, ⟨⟨⟨⟨⟨⟨⟨a, b⟩, c⟩, d⟩, e⟩, f⟩, g⟩, i⟩, j⟩ := h
  exact ⟨inB_true a, inB_true b, c, d, e, f, g, i, j⟩
theorem may_2 {m : MV} (h : mayB m = true) (hk : m.kind = 2) : (0 ≤ m.carrier ∧ m.carrier < 8) ∧ m.req = 0 ∧ m.reserve = 0 ∧ m.bid = 0 ∧ m.nonce = 0 ∧ m.ms = [] ∧ rqZ m.rq = true ∧ outZ m = true := by
  unfold mayB at h
  rw [if_neg (by omega), if_pos hk] at h
  simp only [Bool.and_eq_true, decide_eq_true_eq] at h
  obtain ⟨_, ⟨⟨⟨⟨⟨⟨a, b⟩, c⟩, d⟩, e⟩, f⟩, g⟩, i⟩ := h
  exact ⟨inB_true a, b, c, d, e, f, g, i⟩
theorem may_3 {m : MV} (h : mayB m = true) (hk : m.kind = 3) : riseB m.ms = true ∧ m.carrier = 0 ∧ m.req = 0 ∧ m.reserve = 0 ∧ m.bid = 0 ∧ m.nonce = 0 ∧ rqZ m.rq = true ∧ dgZ m.dg = true ∧ outZ m = true := by
  unfold mayB at h
  rw [if_neg (by omega), if_neg (by omega), if_pos hk] at h
  simp only [Bool.and_eq_true, decide_eq_true_eq] at h
  obtain ⟨_, ⟨⟨⟨⟨⟨⟨⟨a, b⟩, c⟩, d⟩, e⟩, f⟩, g⟩, i⟩, j⟩ := h
  exact ⟨a, b, c, d, e, f, g, i, j⟩
theorem may_4 {m : MV} (h : mayB m = true) (hk : m.kind = 4) : (0 ≤ m.carrier ∧ m.carrier < 8) ∧ m.bid ≤ 4294967296 ∧ m.req = 0 ∧ m.reserve = 0 ∧ m.ms = [] ∧ rqZ m.rq = true ∧ dgZ m.dg = true ∧ outZ m = true := by
  unfold mayB at h
  rw [if_neg (by omega), if_neg (by omega), if_neg (by omega), if_pos hk] at h
  simp only [Bool.and_eq_true, decide_eq_true_eq] at h
  obtain ⟨_, ⟨⟨⟨⟨⟨⟨a, b⟩, c⟩, d⟩, e⟩, f⟩, g⟩, i⟩ := h
  exact ⟨inB_true a, b, c, d, e, f, g, i⟩
theorem may_5 {m : MV} (h : mayB m = true) (hk : m.kind = 5) : toldB m.state m.winner m.price = true ∧ m.carrier = 0 ∧ m.req = 0 ∧ m.reserve = 0 ∧ m.bid = 0 ∧ m.nonce = 0 ∧ m.ms = [] ∧ rqZ m.rq = true ∧ dgZ m.dg = true := by
  unfold mayB at h
  rw [if_neg (by omega), if_neg (by omega), if_neg (by omega), if_neg (by omega), if_pos hk] at h
  simp only [Bool.and_eq_true, decide_eq_true_eq] at h
  obtain ⟨_, ⟨⟨⟨⟨⟨⟨⟨a, b⟩, c⟩, d⟩, e⟩, f⟩, g⟩, i⟩, j⟩ := h
  exact ⟨a, b, c, d, e, f, g, i, j⟩
theorem toldB_rg {s o p : Int} (h : toldB s o p = true) : (2 ≤ s ∧ s ≤ 4) ∧ (-1 ≤ o ∧ o < 8) ∧ p ≤ 16777216 := by
  unfold toldB at h
  by_cases a : s = 2 ∨ s = 4
  · rw [if_pos a, Bool.and_eq_true, decide_eq_true_eq] at h
    have := inB_true h.1
    omega
  · rw [if_neg a, decide_eq_true_eq] at h
    omega
end Go.Proofs.Ytcipdimnbleljaa
namespace Go.Proofs.Ytcipdimnbleljaa
open Go.RowKit
open Extern.Stop (cell)

def stp (s : ByteArray) (x : Nat × Bool) (k : Nat) : Nat × Bool := (rdAt s x.1 x.2 k, rdBad s x.1 x.2 k)
def stps (s : ByteArray) (x : Nat × Bool) (ks : List Nat) : Nat × Bool := ks.foldl (stp s) x
theorem bad_ok {s : ByteArray} {a k : Nat} (h : a + k ≤ s.size) : rdBad s a false k = false := by unfold rdBad; simp; omega
theorem bad_no {s : ByteArray} {a k : Nat} (h : s.size < a + k) : rdBad s a false k = true := by unfold rdBad; simp; omega
theorem bad_tr (s : ByteArray) (a k : Nat) : rdBad s a true k = true := by unfold rdBad; simp
theorem at_ok {s : ByteArray} {a k : Nat} (h : a + k ≤ s.size) : rdAt s a false k = a + k := by unfold rdAt; rw [bad_ok h]; rfl
theorem num_ok {s : ByteArray} {a k : Nat} (h : a + k ≤ s.size) : rdNum s a false k = numAt s a k := by unfold rdNum; rw [bad_ok h]; rfl
theorem stp_ok {s : ByteArray} {a k : Nat} (h : a + k ≤ s.size) : stp s (a, false) k = (a + k, false) := by unfold stp; rw [at_ok h, bad_ok h]
theorem stps_tr (s : ByteArray) (ks : List Nat) : ∀ x : Nat × Bool, x.2 = true → (stps s x ks).2 = true := by
  induction ks with
  | nil => exact fun x h => h
  | cons k r ih =>
    intro x h
    refine ih (stp s x k) ?_
    show rdBad s x.1 x.2 k = true
    rw [h]
    exact bad_tr s x.1 k
theorem stps_ok {s : ByteArray} (ks : List Nat) : ∀ a : Nat, a + ks.sum ≤ s.size → stps s (a, false) ks = (a + ks.sum, false) := by
  induction ks with
  | nil => intro a _; rfl
  | cons k r ih =>
    intro a h
    rw [List.sum_cons] at h ⊢
    show stps s (stp s (a, false) k) r = _
    rw [stp_ok (by omega), ih (a + k) (by omega), Nat.add_assoc]
theorem stps_no {s : ByteArray} (ks : List Nat) : ∀ a : Nat, a ≤ s.size → s.size < a + ks.sum → (stps s (a, false) ks).2 = true := by
  induction ks with
  | nil => intro a h0 h; simp at h; omega
  | cons k r ih =>
    intro a h0 h
    rw [List.sum_cons] at h
    show (stps s (stp s (a, false) k) r).2 = true
    by_cases hk : a + k ≤ s.size
    · rw [stp_ok hk]
      exact ih (a + k) hk (by omega)
    · exact stps_tr s r _ (bad_no (by omega))
theorem stps_append (s : ByteArray) (x : Nat × Bool) (a b : List Nat) : stps s x (a ++ b) = stps s (stps s x a) b := List.foldl_append
theorem rqA_eq (s : ByteArray) (a : Nat) (bad : Bool) (n : Nat) : rqA s a bad n = stps s (a, bad) ((List.range n).map rqW) := by
  induction n with
  | zero => rfl
  | succ n ih => rw [List.range_succ, List.map_append, stps_append, ← ih]; rfl
theorem dgA_eq (s : ByteArray) (a : Nat) (bad : Bool) (n : Nat) : dgA s a bad n = stps s (a, bad) (List.replicate n 1) := by
  induction n with
  | zero => rfl
  | succ n ih => rw [List.replicate_succ', stps_append, ← ih]; rfl
theorem mrA_eq (s : ByteArray) (a : Nat) (bad : Bool) (n : Nat) : mrA s a bad n = stps s (a, bad) (List.replicate (1 + 33 * n) 1) := by
  induction n with
  | zero => rfl
  | succ n ih =>
    rw [show 1 + 33 * (n + 1) = (1 + 33 * n) + (1 + 32) by omega, ← List.replicate_append_replicate, stps_append, ← ih]
    show dgA s _ _ 32 = _
    rw [dgA_eq]
    rfl
def wOff (i : Nat) : Nat := ((List.range i).map rqW).sum
theorem rep_sum (n : Nat) : (List.replicate n 1).sum = n := by simp
theorem wOff_le {i : Nat} (h : i < 10) : wOff i + rqW i ≤ 28 := by
  match i, h with
  | 0, _ => decide
  | 1, _ => decide
  | 2, _ => decide
  | 3, _ => decide
  | 4, _ => decide
  | 5, _ => decide
  | 6, _ => decide
  | 7, _ => decide
  | 8, _ => decide
  | 9, _ => decide
  | i + 10, h => exact absurd h (by omega)
theorem rqV_ok {s : ByteArray} {a : Nat} (h : a + 28 ≤ s.size) {i : Nat} (hi : i < 10) : rqV s a false i = numAt s (a + wOff i) (rqW i) := by
  have := wOff_le hi
  unfold rqV
  rw [rqA_eq, stps_ok _ _ (by show a + wOff i ≤ _; omega)]
  exact num_ok (by show a + wOff i + rqW i ≤ _; omega)
theorem dgV_ok {s : ByteArray} {a i n : Nat} (h : a + n ≤ s.size) (hi : i < n) : dgV s a false i = byteAt s (a + i) := by
  unfold dgV
  rw [dgA_eq, stps_ok _ _ (by rw [rep_sum]; omega), rep_sum]
  show rdNum s (a + i) false 1 = _
  rw [num_ok (by omega)]
  show numAt s (a + i) 0 * 256 + byteAt s (a + i + 0) = _
  rw [numAt]
  simp
/-- so many bytes from a place on -/
def byB (b : ByteArray) (o n : Nat) : List UInt8 := (List.range n).map fun i => b[o + i]?.getD 0
theorem byB_length (b : ByteArray) (o n : Nat) : (byB b o n).length = n := by simp [byB]
theorem byB_getD (b : ByteArray) (o n i : Nat) (h : i < n) : cell ((byB b o n).getD i 0) = .int .u8 (byteAt b (o + i)) := by
  have e : (byB b o n).getD i 0 = b[o + i]?.getD 0 := by simp [byB, List.getD_eq_getElem?_getD, h]
  rw [e]
  rfl
/-- how many numbers' bytes a body of a kind has -/
def widS (k : Int) (b : ByteArray) : Nat :=
  if k = 1 then 34 else if k = 2 then 34 else if k = 3 then (if b.size < 2 then 2 else 2 + 33 * (numAt b 1 1).toNat) else if k = 4 then 18 else 11
/-- the message that a body of a kind reads as -/
def decM (k : Int) (b : ByteArray) (p : Option Addr) : MV where
  kind := k
  round := numAt b 0 1
  carrier := if k = 2 ∨ k = 4 then numAt b 1 1 else 0
  req := if k = 1 then numAt b 1 1 else 0
  reserve := if k = 1 then numAt b 2 4 else 0
  rq := fun i => if k = 1 then numAt b (6 + wOff i) (rqW i) else 0
  dg := if k = 2 then byB b 2 32 else dg0
  ms := if k = 3 then (List.range (numAt b 1 1).toNat).map fun j => (numAt b (2 + 33 * j) 1, byB b (3 + 33 * j) 32) else []
  cap := if k = 3 then (numAt b 1 1).toNat else 0
  p := if k = 3 then p else none
  bid := if k = 4 then numAt b 2 8 else 0
  nonce := if k = 4 then numAt b 10 8 else 0
  state := if k = 5 then numAt b 1 1 else 0
  winner := if k = 5 then numAt b 2 1 - 1 else 0
  price := if k = 5 then numAt b 3 8 else 0
/-- no message -/
def zeroM : MV where
  kind := 0
  round := 0
  carrier := 0
  req := 0
  reserve := 0
  rq := fun _ => 0
  dg := dg0
  ms := []
  cap := 0
  p := none
  bid := 0
  nonce := 0
  state := 0
  winner := 0
  price := 0
end Go.Proofs.Ytcipdimnbleljaa
