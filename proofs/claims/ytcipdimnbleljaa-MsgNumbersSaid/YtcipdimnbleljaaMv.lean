/-
  Layer 18 (msg): a message as a plain value; whether it may be.
-/
import Derived.Test.YtcipdimnbleljaaEq
import Derived.Test.YtcipdimnbleljaaOrd
import Derived.Test.YtcipdimnbleljaaOr
namespace Go.Proofs.Ytcipdimnbleljaa
open Go.RowKit
open Extern.Stop (cell)

/-- a message, by its fields; its marks lie at p -/
structure MV where
  kind : Int
  round : Int
  carrier : Int
  req : Int
  reserve : Int
  rq : Nat → Int
  dg : List UInt8
  ms : List (Int × List UInt8)
  cap : Nat
  p : Option Addr
  bid : Int
  nonce : Int
  state : Int
  winner : Int
  price : Int

/-- the row of a message's cells -/
structure MsgOf (C : Array Value) (m : MV) : Prop where
  size : C.size = 53
  h0 : C[0]? = some (.int .i64 m.kind)
  h1 : C[1]? = some (.int .i64 m.round)
  h2 : C[2]? = some (.int .i64 m.carrier)
  h3 : C[3]? = some (.int .i64 m.req)
  h4 : C[4]? = some (.int .i64 m.reserve)
  h5 : ∀ i, i < 10 → C[5 + i]? = some (.int .i64 (m.rq i))
  h15 : ∀ i, i < 32 → C[15 + i]? = some (cell (m.dg.getD i 0))
  l15 : m.dg.length = 32
  h47 : C[47]? = some (.slice m.p m.ms.length m.cap)
  h48 : C[48]? = some (.int .u64 m.bid)
  h49 : C[49]? = some (.int .u64 m.nonce)
  h50 : C[50]? = some (.int .i64 m.state)
  h51 : C[51]? = some (.int .i64 m.winner)
  h52 : C[52]? = some (.int .u64 m.price)

def I64 (n : Int) : Prop := -9223372036854775808 ≤ n ∧ n < 9223372036854775808
def U64 (n : Int) : Prop := 0 ≤ n ∧ n < 18446744073709551616

/-- the numbers are of their types -/
structure MsgRg (m : MV) : Prop where
  kind : I64 m.kind
  round : I64 m.round
  carrier : I64 m.carrier
  req : I64 m.req
  reserve : I64 m.reserve
  rq : ∀ i, i < 10 → I64 (m.rq i)
  ms : ∀ x ∈ m.ms, I64 x.1
  bid : U64 m.bid
  nonce : U64 m.nonce
  state : I64 m.state
  winner : I64 m.winner
  price : U64 m.price

/-- a mark's cells; all marks' cells -/
def markRow (x : Int × List UInt8) : List Value := .int .i64 x.1 :: x.2.map cell
def mkCells : List (Int × List UInt8) → List Value
  | [] => []
  | x :: r => markRow x ++ mkCells r
theorem markRow_length (x : Int × List UInt8) (h : x.2.length = 32) : (markRow x).length = 33 := by simp [markRow, h]
theorem markRow_one (x : Int × List UInt8) : ∀ v ∈ markRow x, v.oneCell' = true := by
  intro v hv
  simp only [markRow, List.mem_cons, List.mem_map] at hv
  rcases hv with rfl | ⟨b, _, rfl⟩ <;> rfl
theorem mkCells_length : ∀ (ms : List (Int × List UInt8)), (∀ x ∈ ms, x.2.length = 32) → (mkCells ms).length = ms.length * 33
  | [], _ => rfl
  | x :: r, h => by
    rw [mkCells, List.length_append, markRow_length x (h x (by simp)), mkCells_length r (fun y hy => h y (by simp [hy]))]
    simp
    omega
theorem mkCells_one : ∀ (ms : List (Int × List UInt8)), ∀ v ∈ mkCells ms, v.oneCell' = true
  | [], v, hv => by simp [mkCells] at hv
  | x :: r, v, hv => by
    rw [mkCells, List.mem_append] at hv
    rcases hv with hv | hv
    · exact markRow_one x v hv
    · exact mkCells_one r v hv
theorem mkCells_at : ∀ (ms : List (Int × List UInt8)) (k j : Nat) (x : Int × List UInt8), (∀ x ∈ ms, x.2.length = 32) → ms[k]? = some x → j < 33 → (mkCells ms)[k * 33 + j]? = (markRow x)[j]?
  | [], k, j, x, _, hk, _ => by simp at hk
  | y :: r, 0, j, x, h, hk, hj => by
    simp only [List.getElem?_cons_zero, Option.some.injEq] at hk
    subst hk
    rw [mkCells, List.getElem?_append_left (by rw [markRow_length y (h y (by simp))]; omega)]
    simp
  | y :: r, k + 1, j, x, h, hk, hj => by
    simp only [List.getElem?_cons_succ] at hk
    have hl := markRow_length y (h y (by simp))
    rw [mkCells, List.getElem?_append_right (by rw [hl]; omega), hl, show (k + 1) * 33 + j - 33 = k * 33 + j by omega]
    exact mkCells_at r k j x (fun z hz => h z (by simp [hz])) hk hj

theorem addr_add_add (a : Addr) (m n : Nat) : (a.add m).add n = a.add (m + n) := by
  unfold Addr.add
  by_cases hm : m = 0
  · subst hm; simp
  · by_cases hn : n = 0
    · subst hn; simp [hm]
    · simp [hm, hn, Nat.add_assoc]

/-- the marks lie in the world -/
structure MarksAt (w : World) (m : MV) : Prop where
  nil : m.p = none → m.ms = []
  len : ∀ x ∈ m.ms, x.2.length = 32
  big : m.ms.length ≤ 9223372036854775807
  cells : ∀ a, m.p = some a → ∀ j v, (mkCells m.ms)[j]? = some v → w.cell? (a.add j) = some v
theorem MarksAt.row {w : World} {m : MV} (h : MarksAt w m) {a : Addr} (ha : m.p = some a) {k : Nat} {x : Int × List UInt8} (hk : m.ms[k]? = some x) :
    ∀ j v, (markRow x)[j]? = some v → w.cell? ((a.add (k * 33)).add j) = some v := by
  intro j v hj
  have hx := h.len x (List.mem_of_getElem? hk)
  have hl : j < 33 := by
    have := (List.getElem?_eq_some_iff.1 hj).1
    rw [markRow_length x hx] at this
    exact this
  rw [addr_add_add]
  exact h.cells a ha _ v ((mkCells_at m.ms k j x h.len hk hl).trans hj)
theorem MarksAt.mod {w w' : World} {m : MV} {S : Nat → Prop} (h : MarksAt w m) (hm : Mod S w w') (hs : ∀ a, m.p = some a → ¬ S a.block) : MarksAt w' m :=
  ⟨h.nil, h.len, h.big, fun a ha j v hj => hm.cell_of (by rw [show (a.add j).block = a.block by unfold Addr.add; split <;> rfl]; exact hs a ha) (h.cells a ha j v hj)⟩

def inB (n most : Int) : Bool := decide (0 ≤ n ∧ n < most)
def riseB : List (Int × List UInt8) → Bool
  | [] => true
  | [x] => inB x.1 8
  | x :: y :: r => inB x.1 8 && decide (x.1 < y.1) && riseB (y :: r)
def toldB (state winner price : Int) : Bool :=
  if state = 2 ∨ state = 4 then inB winner 8 && decide (price ≤ 16777216) else decide (state = 3 ∧ winner = -1 ∧ price = 0)
def rqZ (rq : Nat → Int) : Bool := (List.range 10).all fun i => rq i == 0
def dgZ (dg : List UInt8) : Bool := dg == List.replicate 32 0
def outZ (m : MV) : Bool := decide (m.state = 0 ∧ m.winner = 0 ∧ m.price = 0)
def ckB (rq : Nat → Int) : Bool := decide (rqCode (rq 0) (rq 1) (rq 2) (rq 3) (rq 4) (rq 5) (rq 6) (rq 7) (rq 8) (rq 9) = 0)

/-- may a message be? -/
def mayB (m : MV) : Bool :=
  inB m.round 16 &&
  (if m.kind = 1 then inB m.req 64 && inB m.reserve 16777217 && ckB m.rq && decide (m.carrier = 0) && decide (m.bid = 0) && decide (m.nonce = 0) && decide (m.ms = []) && dgZ m.dg && outZ m
   else if m.kind = 2 then inB m.carrier 8 && decide (m.req = 0) && decide (m.reserve = 0) && decide (m.bid = 0) && decide (m.nonce = 0) && decide (m.ms = []) && rqZ m.rq && outZ m
   else if m.kind = 3 then riseB m.ms && decide (m.carrier = 0) && decide (m.req = 0) && decide (m.reserve = 0) && decide (m.bid = 0) && decide (m.nonce = 0) && rqZ m.rq && dgZ m.dg && outZ m
   else if m.kind = 4 then inB m.carrier 8 && decide (m.bid ≤ 4294967296) && decide (m.req = 0) && decide (m.reserve = 0) && decide (m.ms = []) && rqZ m.rq && dgZ m.dg && outZ m
   else if m.kind = 5 then toldB m.state m.winner m.price && decide (m.carrier = 0) && decide (m.req = 0) && decide (m.reserve = 0) && decide (m.bid = 0) && decide (m.nonce = 0) && decide (m.ms = []) && rqZ m.rq && dgZ m.dg
   else false)

end Go.Proofs.Ytcipdimnbleljaa
