/-
  Layer 18 (msg): what a message that may be is like. No program in sight.
-/
import Derived.Test.YtcipdimnbleljaaCodP
namespace Go.Proofs.Ytcipdimnbleljaa
open Go.RowKit
open Extern.Stop (cell)

theorem inB_true {n m : Int} (h : inB n m = true) : 0 ≤ n ∧ n < m := of_decide_eq_true h
theorem riseB_len : ∀ (r : List (Int × List UInt8)) (x : Int × List UInt8), riseB (x :: r) = true → 0 ≤ x.1 ∧ x.1 + r.length ≤ 7
  | [], x, h => by
    have := inB_true (n := x.1) (m := 8) h
    simp
    omega
  | y :: r, x, h => by
    simp only [riseB, Bool.and_eq_true, decide_eq_true_eq] at h
    have h1 := inB_true h.1.1
    have h2 := riseB_len r y h.2
    simp only [List.length_cons]
    omega
theorem riseB_all : ∀ (l : List (Int × List UInt8)), riseB l = true → ∀ x ∈ l, 0 ≤ x.1 ∧ x.1 < 8
  | [], _, x, hx => by cases hx
  | [y], h, x, hx => by
    rw [List.mem_singleton] at hx
    subst hx
    exact inB_true h
  | y :: z :: r, h, x, hx => by
    simp only [riseB, Bool.and_eq_true, decide_eq_true_eq] at h
    rcases List.mem_cons.1 hx with e | hx
    · subst e; exact inB_true h.1.1
    · exact riseB_all (z :: r) h.2 x hx
theorem riseB_le8 {l : List (Int × List UInt8)} (h : riseB l = true) : l.length ≤ 8 := by
  cases l with
  | nil => simp
  | cons x r =>
    have := riseB_len r x h
    simp only [List.length_cons]
    omega
theorem ckB_rg {rq : Nat → Int} (h : ckB rq = true) : ∀ i, i < 10 → 0 ≤ rq i ∧ rq i < 256 ^ rqW i := by
  have h0 : rqCode (rq 0) (rq 1) (rq 2) (rq 3) (rq 4) (rq 5) (rq 6) (rq 7) (rq 8) (rq 9) = 0 := of_decide_eq_true h
  unfold rqCode firstC at h0
  by_cases a : (plB (rq 0) (rq 1) && plB (rq 2) (rq 3)) = true
  · by_cases b : (wiB (rq 4) (rq 5) && wiB (rq 6) (rq 7)) = true
    · by_cases c : (decide (1 ≤ rq 8 ∧ rq 8 ≤ 1000) && decide (0 ≤ rq 9 ∧ rq 9 ≤ 1000)) = true
      · simp only [Bool.and_eq_true, plB, wiB, decide_eq_true_eq] at a b c
        intro i hi
        match i, hi with
        | 0, _ => exact ⟨by omega, by show rq 0 < 256 ^ 2; omega⟩
        | 1, _ => exact ⟨by omega, by show rq 1 < 256 ^ 2; omega⟩
        | 2, _ => exact ⟨by omega, by show rq 2 < 256 ^ 2; omega⟩
        | 3, _ => exact ⟨by omega, by show rq 3 < 256 ^ 2; omega⟩
        | 4, _ => exact ⟨by omega, by show rq 4 < 256 ^ 4; omega⟩
        | 5, _ => exact ⟨by omega, by show rq 5 < 256 ^ 4; omega⟩
        | 6, _ => exact ⟨by omega, by show rq 6 < 256 ^ 4; omega⟩
        | 7, _ => exact ⟨by omega, by show rq 7 < 256 ^ 4; omega⟩
        | 8, _ => exact ⟨by omega, by show rq 8 < 256 ^ 2; omega⟩
        | 9, _ => exact ⟨by omega, by show rq 9 < 256 ^ 2; omega⟩
        | i + 10, hi => exact absurd hi (by omega)
      · rw [a, b, Bool.not_eq_true _ |>.mp c] at h0; exact absurd h0 (by decide)
    · rw [a, Bool.not_eq_true _ |>.mp b] at h0; simp at h0
  · rw [Bool.not_eq_true _ |>.mp a] at h0; simp at h0
theorem may_kind {m : MV} (h : mayB m = true) : m.kind = 1 ∨ m.kind = 2 ∨ m.kind = 3 ∨ m.kind = 4 ∨ m.kind = 5 := by
  unfold mayB at h
  by_cases h1 : m.kind = 1
  · exact .inl h1
  · by_cases h2 : m.kind = 2
    · exact .inr (.inl h2)
    · by_cases h3 : m.kind = 3
      · exact .inr (.inr (.inl h3))
      · by_cases h4 : m.kind = 4
        · exact .inr (.inr (.inr (.inl h4)))
        · by_cases h5 : m.kind = 5
          · exact .inr (.inr (.inr (.inr h5)))
          · simp [h1, h2, h3, h4, h5] at h
theorem may_round {m : MV} (h : mayB m = true) : 0 ≤ m.round ∧ m.round < 16 := by
  unfold mayB at h
  rw [Bool.and_eq_true] at h
  exact inB_true h.1
theorem may_1 {m : MV} (h : mayB m = true) (hk : m.kind = 1) : (0 ≤ m.req ∧ m.req < 64) ∧ (0 ≤ m.reserve ∧ m.reserve < 16777217) ∧ ckB m.rq = true ∧ m.carrier = 0 ∧ m.bid = 0 ∧ m.nonce = 0 ∧ m.ms = [] ∧ dgZ m.dg = true ∧ outZ m = true := by
  unfold mayB at h
  rw [if_pos hk] at h
  simp only [Bool.and_eq_true, decide_eq_true_eq] at h
  obtain ⟨_, ⟨⟨⟨⟨⟨⟨⟨a, b⟩, c⟩, d⟩, e⟩, f⟩, g⟩, i⟩, j⟩ := h
  exact ⟨inB_true a, inB_true b, c, d, e, f, g, i, j⟩
theorem may_2 {m : MV} (h : mayB m = true) (hk : m.kind = 2) : (0 ≤ m.carrier ∧ m.carrier < 8) ∧ m.req = 0 ∧ m.reserve = 0 ∧ m.bid = 0 ∧ m.nonce = 0 ∧ m.ms = [] ∧ rqZ m.rq = true ∧ outZ m = true := by
  unfold mayB at h
  rw [if_neg (by omega), if_pos hk] at h
  simp only [Bool.and_eq_true, decide_eq_true_eq] at h
  obtain ⟨_, ⟨⟨⟨⟨⟨⟨a, b⟩, c⟩, d⟩, e⟩, f⟩, g⟩, i⟩ := h
  exact ⟨inB_true a, b, c, d, e, f, g, i⟩
theorem may_3 {m : MV} (h : mayB m = true) (hk : m.kind = 3) : riseB m.ms = true ∧ m.carrier = 0 ∧ m.req = 0 ∧ m.reserve = 0 ∧ m.bid = 0 ∧ m.nonce = 0 ∧ rqZ m.rq = true ∧ dgZ m.dg = true ∧ outZ m = true := by
  unfold mayB at h
  rw [if_neg (by omega), if_neg (by omega), if_pos hk] at h
  simp only [Bool.and_eq_true, decide_eq_true_eq] at h
  obtain ⟨_, ⟨⟨⟨⟨⟨⟨⟨a, b⟩, c⟩, d⟩, e⟩, f⟩, g⟩, i⟩, j⟩ := h
  exact ⟨a, b, c, d, e, f, g, i, j⟩
theorem may_4 {m : MV} (h : mayB m = true) (hk : m.kind = 4) : (0 ≤ m.carrier ∧ m.carrier < 8) ∧ m.bid ≤ 4294967296 ∧ m.req = 0 ∧ m.reserve = 0 ∧ m.ms = [] ∧ rqZ m.rq = true ∧ dgZ m.dg = true ∧ outZ m = true := by
  unfold mayB at h
  rw [if_neg (by omega), if_neg (by omega), if_neg (by omega), if_pos hk] at h
  simp only [Bool.and_eq_true, decide_eq_true_eq] at h
  obtain ⟨_, ⟨⟨⟨⟨⟨⟨a, b⟩, c⟩, d⟩, e⟩, f⟩, g⟩, i⟩ := h
  exact ⟨inB_true a, b, c, d, e, f, g, i⟩
theorem may_5 {m : MV} (h : mayB m = true) (hk : m.kind = 5) : toldB m.state m.winner m.price = true ∧ m.carrier = 0 ∧ m.req = 0 ∧ m.reserve = 0 ∧ m.bid = 0 ∧ m.nonce = 0 ∧ m.ms = [] ∧ rqZ m.rq = true ∧ dgZ m.dg = true := by
  unfold mayB at h
  rw [if_neg (by omega), if_neg (by omega), if_neg (by omega), if_neg (by omega), if_pos hk] at h
  simp only [Bool.and_eq_true, decide_eq_true_eq] at h
  obtain ⟨_, ⟨⟨⟨⟨⟨⟨⟨a, b⟩, c⟩, d⟩, e⟩, f⟩, g⟩, i⟩, j⟩ := h
  exact ⟨a, b, c, d, e, f, g, i, j⟩
theorem toldB_rg {s o p : Int} (h : toldB s o p = true) : (2 ≤ s ∧ s ≤ 4) ∧ (-1 ≤ o ∧ o < 8) ∧ p ≤ 16777216 := by
  unfold toldB at h
  by_cases a : s = 2 ∨ s = 4
  · rw [if_pos a, Bool.and_eq_true, decide_eq_true_eq] at h
    have := inB_true h.1
    omega
  · rw [if_neg a, decide_eq_true_eq] at h
    omega
end Go.Proofs.Ytcipdimnbleljaa
