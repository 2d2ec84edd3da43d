/-
  Layer 18 (msg): may: what is left of a message behind its kind's part.
-/
import Derived.Test.YtcipdimnbleljaaMv
namespace Go.Proofs.Ytcipdimnbleljaa
open Go.RowKit
open Extern.Stop (cell)

def dg0 : List UInt8 := List.replicate 32 0
/-- the message, with its kind's part taken out -/
def MV.strip1 (m : MV) : MV := { m with req := 0, reserve := 0, rq := fun _ => 0 }
def MV.strip2 (m : MV) : MV := { m with carrier := 0, dg := dg0 }
def MV.strip3 (m : MV) : MV := { m with ms := [], cap := 0, p := none }
def MV.strip4 (m : MV) : MV := { m with carrier := 0, bid := 0, nonce := 0 }
def MV.strip5 (m : MV) : MV := { m with state := 0, winner := 0, price := 0 }
def emB (m : MV) : Bool := decide (bits .or .i64 (bits .or .i64 m.carrier m.req) m.reserve = 0) && (decide (bits .or .u64 m.bid m.nonce = 0) && decide ((m.ms.length : Int) = 0))
def tailB (R : Bool) (m : MV) : Bool := R && (emB m && (rqZ m.rq && (dgZ m.dg && outZ m)))

theorem emB_eq (m : MV) (h : MsgRg m) : emB m = (decide (m.carrier = 0) && decide (m.req = 0) && decide (m.reserve = 0) && decide (m.bid = 0) && decide (m.nonce = 0) && decide (m.ms = [])) := by
  unfold emB
  have e1 := or_i64_zero (bits .or .i64 m.carrier m.req) m.reserve (or_i64_rg _ _) h.reserve
  have e2 := or_i64_zero m.carrier m.req h.carrier h.req
  have e3 := or_u64_zero m.bid m.nonce h.bid h.nonce
  have e4 : decide ((m.ms.length : Int) = 0) = decide (m.ms = []) := by
    rw [decide_eq_decide]; constructor
    · intro h; exact List.length_eq_zero_iff.1 (by omega)
    · intro h; rw [h]; rfl
  rw [e4]
  rw [Bool.eq_iff_iff]
  simp only [Bool.and_eq_true, decide_eq_true_eq, e1, e2, e3]
  constructor
  · rintro ⟨⟨⟨a, b⟩, c⟩, ⟨d, e⟩, f⟩; exact ⟨⟨⟨⟨⟨a, b⟩, c⟩, d⟩, e⟩, f⟩
  · rintro ⟨⟨⟨⟨⟨a, b⟩, c⟩, d⟩, e⟩, f⟩; exact ⟨⟨⟨a, b⟩, c⟩, ⟨d, e⟩, f⟩
theorem rg0 : I64 0 := ⟨by omega, by omega⟩
theorem ug0 : U64 0 := ⟨by omega, by omega⟩
theorem dgZ0 : dgZ dg0 = true := by decide
theorem rqZ0 : rqZ (fun _ => 0) = true := by decide
theorem may1_eq (m : MV) (h : MsgRg m) (hk : m.kind = 1) : mayB m = tailB (inB m.round 16 && (inB m.req 64 && (inB m.reserve 16777217 && ckB m.rq))) m.strip1 := by
  unfold mayB tailB
  rw [if_pos hk, emB_eq m.strip1 ⟨h.kind, h.round, h.carrier, rg0, rg0, fun _ _ => rg0, h.ms, h.bid, h.nonce, h.state, h.winner, h.price⟩]
  simp only [MV.strip1, outZ, rqZ0]
  ac_rfl
theorem may2_eq (m : MV) (h : MsgRg m) (hk : m.kind = 2) : mayB m = tailB (inB m.round 16 && inB m.carrier 8) m.strip2 := by
  unfold mayB tailB
  rw [if_neg (by omega), if_pos hk, emB_eq m.strip2 ⟨h.kind, h.round, rg0, h.req, h.reserve, h.rq, h.ms, h.bid, h.nonce, h.state, h.winner, h.price⟩]
  simp only [MV.strip2, outZ, dgZ0, Bool.true_and]
  ac_rfl
theorem may3_eq (m : MV) (h : MsgRg m) (hk : m.kind = 3) : mayB m = tailB (inB m.round 16 && riseB m.ms) m.strip3 := by
  unfold mayB tailB
  rw [if_neg (by omega), if_neg (by omega), if_pos hk, emB_eq m.strip3 ⟨h.kind, h.round, h.carrier, h.req, h.reserve, h.rq, by intro x hx; simp [MV.strip3] at hx, h.bid, h.nonce, h.state, h.winner, h.price⟩]
  simp only [MV.strip3, outZ]
  ac_rfl
theorem may4_eq (m : MV) (h : MsgRg m) (hk : m.kind = 4) : mayB m = tailB (inB m.round 16 && (inB m.carrier 8 && decide (m.bid ≤ 4294967296))) m.strip4 := by
  unfold mayB tailB
  rw [if_neg (by omega), if_neg (by omega), if_neg (by omega), if_pos hk, emB_eq m.strip4 ⟨h.kind, h.round, rg0, h.req, h.reserve, h.rq, h.ms, ug0, ug0, h.state, h.winner, h.price⟩]
  simp only [MV.strip4, outZ]
  ac_rfl
theorem may5_eq (m : MV) (h : MsgRg m) (hk : m.kind = 5) : mayB m = tailB (inB m.round 16 && toldB m.state m.winner m.price) m.strip5 := by
  unfold mayB tailB
  rw [if_neg (by omega), if_neg (by omega), if_neg (by omega), if_neg (by omega), if_pos hk, emB_eq m.strip5 ⟨h.kind, h.round, h.carrier, h.req, h.reserve, h.rq, h.ms, h.bid, h.nonce, rg0, rg0, ug0⟩]
  simp only [MV.strip5, outZ]
  have d2 : decide (True ∧ True ∧ True) = true := by decide
  rw [d2, Bool.and_true]
  ac_rfl

/-- one cell that is not of a part -/
theorem set_ne {C : Array Value} {i j : Nat} {v : Value} (h : i ≠ j) : (C.setIfInBounds i v)[j]? = C[j]? := Array.getElem?_setIfInBounds_ne h
theorem set_eq {C : Array Value} {i : Nat} {v : Value} (h : i < C.size) : (C.setIfInBounds i v)[i]? = some v := by
  rw [Array.getElem?_setIfInBounds]; simp [h]

set_option maxRecDepth 100000 in
set_option maxHeartbeats 1000000 in
theorem strip1_of {C : Array Value} {m : MV} (h : MsgOf C m) : MsgOf ((((((((((((C.setIfInBounds 3 (Value.int .i64 0)).setIfInBounds 4 (Value.int .i64 0)).setIfInBounds 5 (Value.int .i64 0)).setIfInBounds 6 (Value.int .i64 0)).setIfInBounds 7 (Value.int .i64 0)).setIfInBounds 8 (Value.int .i64 0)).setIfInBounds 9 (Value.int .i64 0)).setIfInBounds 10 (Value.int .i64 0)).setIfInBounds 11 (Value.int .i64 0)).setIfInBounds 12 (Value.int .i64 0)).setIfInBounds 13 (Value.int .i64 0)).setIfInBounds 14 (Value.int .i64 0)) m.strip1 := by
  have hs := h.size
  refine ⟨by simp only [Array.size_setIfInBounds]; exact hs, ?_, ?_, ?_, ?_, ?_, ?_, ?_, h.l15, ?_, ?_, ?_, ?_, ?_, ?_⟩
  · repeat rw [set_ne (by omega)]
    exact h.h0
  · repeat rw [set_ne (by omega)]
    exact h.h1
  · repeat rw [set_ne (by omega)]
    exact h.h2
  · simp [hs, MV.strip1]
  · simp [hs, MV.strip1]
  · intro i hi
    match i, hi with
    | 0, _ => simp [hs, MV.strip1]
    | 1, _ => simp [hs, MV.strip1]
    | 2, _ => simp [hs, MV.strip1]
    | 3, _ => simp [hs, MV.strip1]
    | 4, _ => simp [hs, MV.strip1]
    | 5, _ => simp [hs, MV.strip1]
    | 6, _ => simp [hs, MV.strip1]
    | 7, _ => simp [hs, MV.strip1]
    | 8, _ => simp [hs, MV.strip1]
    | 9, _ => simp [hs, MV.strip1]
    | i + 10, hi => exact absurd hi (by omega)
  · intro i hi
    repeat rw [set_ne (by omega)]
    exact h.h15 i hi
  · repeat rw [set_ne (by omega)]
    exact h.h47
  · repeat rw [set_ne (by omega)]
    exact h.h48
  · repeat rw [set_ne (by omega)]
    exact h.h49
  · repeat rw [set_ne (by omega)]
    exact h.h50
  · repeat rw [set_ne (by omega)]
    exact h.h51
  · repeat rw [set_ne (by omega)]
    exact h.h52

set_option maxRecDepth 100000 in
set_option maxHeartbeats 1000000 in
theorem strip2_of {C : Array Value} {m : MV} (h : MsgOf C m) : MsgOf (((((((((((((((((((((((((((((((((C.setIfInBounds 2 (Value.int .i64 0)).setIfInBounds 15 (Value.int .u8 0)).setIfInBounds 16 (Value.int .u8 0)).setIfInBounds 17 (Value.int .u8 0)).setIfInBounds 18 (Value.int .u8 0)).setIfInBounds 19 (Value.int .u8 0)).setIfInBounds 20 (Value.int .u8 0)).setIfInBounds 21 (Value.int .u8 0)).setIfInBounds 22 (Value.int .u8 0)).setIfInBounds 23 (Value.int .u8 0)).setIfInBounds 24 (Value.int .u8 0)).setIfInBounds 25 (Value.int .u8 0)).setIfInBounds 26 (Value.int .u8 0)).setIfInBounds 27 (Value.int .u8 0)).setIfInBounds 28 (Value.int .u8 0)).setIfInBounds 29 (Value.int .u8 0)).setIfInBounds 30 (Value.int .u8 0)).setIfInBounds 31 (Value.int .u8 0)).setIfInBounds 32 (Value.int .u8 0)).setIfInBounds 33 (Value.int .u8 0)).setIfInBounds 34 (Value.int .u8 0)).setIfInBounds 35 (Value.int .u8 0)).setIfInBounds 36 (Value.int .u8 0)).setIfInBounds 37 (Value.int .u8 0)).setIfInBounds 38 (Value.int .u8 0)).setIfInBounds 39 (Value.int .u8 0)).setIfInBounds 40 (Value.int .u8 0)).setIfInBounds 41 (Value.int .u8 0)).setIfInBounds 42 (Value.int .u8 0)).setIfInBounds 43 (Value.int .u8 0)).setIfInBounds 44 (Value.int .u8 0)).setIfInBounds 45 (Value.int .u8 0)).setIfInBounds 46 (Value.int .u8 0)) m.strip2 := by
  have hs := h.size
  refine ⟨by simp only [Array.size_setIfInBounds]; exact hs, ?_, ?_, ?_, ?_, ?_, ?_, ?_, show dg0.length = 32 by decide, ?_, ?_, ?_, ?_, ?_, ?_⟩
  · repeat rw [set_ne (by omega)]
    exact h.h0
  · repeat rw [set_ne (by omega)]
    exact h.h1
  · simp [hs, MV.strip2]
  · repeat rw [set_ne (by omega)]
    exact h.h3
  · repeat rw [set_ne (by omega)]
    exact h.h4
  · intro i hi
    repeat rw [set_ne (by omega)]
    exact h.h5 i hi
  · intro i hi
    match i, hi with
    | 0, _ => simp [hs, MV.strip2]; rfl
    | 1, _ => simp [hs, MV.strip2]; rfl
    | 2, _ => simp [hs, MV.strip2]; rfl
    | 3, _ => simp [hs, MV.strip2]; rfl
    | 4, _ => simp [hs, MV.strip2]; rfl
    | 5, _ => simp [hs, MV.strip2]; rfl
    | 6, _ => simp [hs, MV.strip2]; rfl
    | 7, _ => simp [hs, MV.strip2]; rfl
    | 8, _ => simp [hs, MV.strip2]; rfl
    | 9, _ => simp [hs, MV.strip2]; rfl
    | 10, _ => simp [hs, MV.strip2]; rfl
    | 11, _ => simp [hs, MV.strip2]; rfl
    | 12, _ => simp [hs, MV.strip2]; rfl
    | 13, _ => simp [hs, MV.strip2]; rfl
    | 14, _ => simp [hs, MV.strip2]; rfl
    | 15, _ => simp [hs, MV.strip2]; rfl
    | 16, _ => simp [hs, MV.strip2]; rfl
    | 17, _ => simp [hs, MV.strip2]; rfl
    | 18, _ => simp [hs, MV.strip2]; rfl
    | 19, _ => simp [hs, MV.strip2]; rfl
    | 20, _ => simp [hs, MV.strip2]; rfl
    | 21, _ => simp [hs, MV.strip2]; rfl
    | 22, _ => simp [hs, MV.strip2]; rfl
    | 23, _ => simp [hs, MV.strip2]; rfl
    | 24, _ => simp [hs, MV.strip2]; rfl
    | 25, _ => simp [hs, MV.strip2]; rfl
    | 26, _ => simp [hs, MV.strip2]; rfl
    | 27, _ => simp [hs, MV.strip2]; rfl
    | 28, _ => simp [hs, MV.strip2]; rfl
    | 29, _ => simp [hs, MV.strip2]; rfl
    | 30, _ => simp [hs, MV.strip2]; rfl
    | 31, _ => simp [hs, MV.strip2]; rfl
    | i + 32, hi => exact absurd hi (by omega)
  · repeat rw [set_ne (by omega)]
    exact h.h47
  · repeat rw [set_ne (by omega)]
    exact h.h48
  · repeat rw [set_ne (by omega)]
    exact h.h49
  · repeat rw [set_ne (by omega)]
    exact h.h50
  · repeat rw [set_ne (by omega)]
    exact h.h51
  · repeat rw [set_ne (by omega)]
    exact h.h52

set_option maxRecDepth 100000 in
set_option maxHeartbeats 1000000 in
theorem strip3_of {C : Array Value} {m : MV} (h : MsgOf C m) : MsgOf (C.setIfInBounds 47 (Value.slice none 0 0)) m.strip3 := by
  have hs := h.size
  refine ⟨by simp only [Array.size_setIfInBounds]; exact hs, ?_, ?_, ?_, ?_, ?_, ?_, ?_, h.l15, ?_, ?_, ?_, ?_, ?_, ?_⟩
  · repeat rw [set_ne (by omega)]
    exact h.h0
  · repeat rw [set_ne (by omega)]
    exact h.h1
  · repeat rw [set_ne (by omega)]
    exact h.h2
  · repeat rw [set_ne (by omega)]
    exact h.h3
  · repeat rw [set_ne (by omega)]
    exact h.h4
  · intro i hi
    repeat rw [set_ne (by omega)]
    exact h.h5 i hi
  · intro i hi
    repeat rw [set_ne (by omega)]
    exact h.h15 i hi
  · simp [hs, MV.strip3]
  · repeat rw [set_ne (by omega)]
    exact h.h48
  · repeat rw [set_ne (by omega)]
    exact h.h49
  · repeat rw [set_ne (by omega)]
    exact h.h50
  · repeat rw [set_ne (by omega)]
    exact h.h51
  · repeat rw [set_ne (by omega)]
    exact h.h52

set_option maxRecDepth 100000 in
set_option maxHeartbeats 1000000 in
theorem strip4_of {C : Array Value} {m : MV} (h : MsgOf C m) : MsgOf (((C.setIfInBounds 2 (Value.int .i64 0)).setIfInBounds 48 (Value.int .u64 0)).setIfInBounds 49 (Value.int .u64 0)) m.strip4 := by
  have hs := h.size
  refine ⟨by simp only [Array.size_setIfInBounds]; exact hs, ?_, ?_, ?_, ?_, ?_, ?_, ?_, h.l15, ?_, ?_, ?_, ?_, ?_, ?_⟩
  · repeat rw [set_ne (by omega)]
    exact h.h0
  · repeat rw [set_ne (by omega)]
    exact h.h1
  · simp [hs, MV.strip4]
  · repeat rw [set_ne (by omega)]
    exact h.h3
  · repeat rw [set_ne (by omega)]
    exact h.h4
  · intro i hi
    repeat rw [set_ne (by omega)]
    exact h.h5 i hi
  · intro i hi
    repeat rw [set_ne (by omega)]
    exact h.h15 i hi
  · repeat rw [set_ne (by omega)]
    exact h.h47
  · simp [hs, MV.strip4]
  · simp [hs, MV.strip4]
  · repeat rw [set_ne (by omega)]
    exact h.h50
  · repeat rw [set_ne (by omega)]
    exact h.h51
  · repeat rw [set_ne (by omega)]
    exact h.h52

set_option maxRecDepth 100000 in
set_option maxHeartbeats 1000000 in
theorem strip5_of {C : Array Value} {m : MV} (h : MsgOf C m) : MsgOf (((C.setIfInBounds 50 (Value.int .i64 0)).setIfInBounds 51 (Value.int .i64 0)).setIfInBounds 52 (Value.int .u64 0)) m.strip5 := by
  have hs := h.size
  refine ⟨by simp only [Array.size_setIfInBounds]; exact hs, ?_, ?_, ?_, ?_, ?_, ?_, ?_, h.l15, ?_, ?_, ?_, ?_, ?_, ?_⟩
  · repeat rw [set_ne (by omega)]
    exact h.h0
  · repeat rw [set_ne (by omega)]
    exact h.h1
  · repeat rw [set_ne (by omega)]
    exact h.h2
  · repeat rw [set_ne (by omega)]
    exact h.h3
  · repeat rw [set_ne (by omega)]
    exact h.h4
  · intro i hi
    repeat rw [set_ne (by omega)]
    exact h.h5 i hi
  · intro i hi
    repeat rw [set_ne (by omega)]
    exact h.h15 i hi
  · repeat rw [set_ne (by omega)]
    exact h.h47
  · repeat rw [set_ne (by omega)]
    exact h.h48
  · repeat rw [set_ne (by omega)]
    exact h.h49
  · simp [hs, MV.strip5]
  · simp [hs, MV.strip5]
  · simp [hs, MV.strip5]

theorem strip2_part {C D : Array Value} {m : MV} (h : MsgOf C m) (hs : D.size = 53) (hg : ∀ i : Nat, D[i]? = if 15 ≤ i ∧ i < 15 + 32 then (#[Value.int .u8 0, Value.int .u8 0, Value.int .u8 0, Value.int .u8 0, Value.int .u8 0, Value.int .u8 0, Value.int .u8 0, Value.int .u8 0, Value.int .u8 0, Value.int .u8 0, Value.int .u8 0, Value.int .u8 0, Value.int .u8 0, Value.int .u8 0, Value.int .u8 0, Value.int .u8 0, Value.int .u8 0, Value.int .u8 0, Value.int .u8 0, Value.int .u8 0, Value.int .u8 0, Value.int .u8 0, Value.int .u8 0, Value.int .u8 0, Value.int .u8 0, Value.int .u8 0, Value.int .u8 0, Value.int .u8 0, Value.int .u8 0, Value.int .u8 0, Value.int .u8 0, Value.int .u8 0] : Array Value)[i - 15]? else (C.setIfInBounds 2 (Value.int .i64 0))[i]?) : MsgOf D m.strip2 := by
  have hc := h.size
  refine ⟨hs, ?_, ?_, ?_, ?_, ?_, ?_, ?_, (show dg0.length = 32 by decide), ?_, ?_, ?_, ?_, ?_, ?_⟩
  · rw [hg, if_neg (by omega), set_ne (by omega)]; exact h.h0
  · rw [hg, if_neg (by omega), set_ne (by omega)]; exact h.h1
  · rw [hg, if_neg (by omega), set_eq (by omega)]; rfl
  · rw [hg, if_neg (by omega), set_ne (by omega)]; exact h.h3
  · rw [hg, if_neg (by omega), set_ne (by omega)]; exact h.h4
  · intro i hi
    rw [hg, if_neg (by omega), set_ne (by omega)]; exact h.h5 i hi
  · intro i hi
    rw [hg, if_pos (by omega), show 15 + i - 15 = i by omega]
    match i, hi with
    | 0, _ => rfl
    | 1, _ => rfl
    | 2, _ => rfl
    | 3, _ => rfl
    | 4, _ => rfl
    | 5, _ => rfl
    | 6, _ => rfl
    | 7, _ => rfl
    | 8, _ => rfl
    | 9, _ => rfl
    | 10, _ => rfl
    | 11, _ => rfl
    | 12, _ => rfl
    | 13, _ => rfl
    | 14, _ => rfl
    | 15, _ => rfl
    | 16, _ => rfl
    | 17, _ => rfl
    | 18, _ => rfl
    | 19, _ => rfl
    | 20, _ => rfl
    | 21, _ => rfl
    | 22, _ => rfl
    | 23, _ => rfl
    | 24, _ => rfl
    | 25, _ => rfl
    | 26, _ => rfl
    | 27, _ => rfl
    | 28, _ => rfl
    | 29, _ => rfl
    | 30, _ => rfl
    | 31, _ => rfl
    | i + 32, hi => exact absurd hi (by omega)
  · rw [hg, if_neg (by omega), set_ne (by omega)]; exact h.h47
  · rw [hg, if_neg (by omega), set_ne (by omega)]; exact h.h48
  · rw [hg, if_neg (by omega), set_ne (by omega)]; exact h.h49
  · rw [hg, if_neg (by omega), set_ne (by omega)]; exact h.h50
  · rw [hg, if_neg (by omega), set_ne (by omega)]; exact h.h51
  · rw [hg, if_neg (by omega), set_ne (by omega)]; exact h.h52
end Go.Proofs.Ytcipdimnbleljaa
