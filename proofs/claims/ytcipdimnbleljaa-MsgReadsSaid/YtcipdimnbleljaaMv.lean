/-
  Layer 18 (msg): '==' on digests, requests, outcomes.
  Layers 2 to 4: place.May, window.May, order.Check, and the reference's.
  Bits: 'a | b == 0'. Of no program.
  Layer 18 (msg): a message as a plain value; whether it may be.
-/
import Derived.Test.YtcipdimnbleljaaWr
import Derived.Stop.BytesEq
import Derived.Test.YtcipdimnbleljaaBlk
import Derived.Test.YtcipdimnbleljaaBase
namespace Go.Proofs.Ytcipdimnbleljaa
open Go.RowKit
open Extern.Stop (cell)

set_option maxRecDepth 100000 in
theorem eql_digest (w : World) (A B : Array Value) (da db : List UInt8) (hA : A.toList = da.map cell) (hB : B.toList = db.map cell) (la : da.length = 32) (lb : db.length = 32) :
    (binOp .eql 37 (.agg A) (.agg B)).run Try.prog w = .ok (.bool (da == db)) w := by
  have eA : A = (da.map cell).toArray := by rw [← hA]
  have eB : B = (db.map cell).toArray := by rw [← hB]
  rw [eA, eB]
  exact run_eql_bytes w 37 5 32 Try.underlying37 Try.underlying5 (fun w => by kernel_rfl) da db la lb

set_option maxRecDepth 100000 in
theorem eql_request (w : World) (x y : Nat → Int) :
    (binOp .eql 35 (.agg #[.int .i64 (x 0), .int .i64 (x 1), .int .i64 (x 2), .int .i64 (x 3), .int .i64 (x 4), .int .i64 (x 5), .int .i64 (x 6), .int .i64 (x 7), .int .i64 (x 8), .int .i64 (x 9)])
      (.agg #[.int .i64 (y 0), .int .i64 (y 1), .int .i64 (y 2), .int .i64 (y 3), .int .i64 (y 4), .int .i64 (y 5), .int .i64 (y 6), .int .i64 (y 7), .int .i64 (y 8), .int .i64 (y 9)])).run Try.prog w
      = .ok (.bool ((List.range 10).all fun i => x i == y i)) w := by
  go_simp
  repeat' split
  all_goals simp_all
set_option maxRecDepth 100000 in
theorem eql_outcome (w : World) (s o p s' o' p' : Int) :
    (binOp .eql 40 (.agg #[.int .i64 s, .int .i64 o, .int .u64 p]) (.agg #[.int .i64 s', .int .i64 o', .int .u64 p'])).run Try.prog w
      = .ok (.bool (decide (s = s' ∧ o = o' ∧ p = p'))) w := by
  go_simp
  repeat' split
  all_goals simp_all
end Go.Proofs.Ytcipdimnbleljaa
namespace Go.Proofs.Ytcipdimnbleljaa
open Go.RowKit

/-- a place on the grid -/
def plB (x y : Int) : Bool := decide (0 ≤ x ∧ x < 1024 ∧ 0 ≤ y ∧ y < 1024)
/-- a window that may be -/
def wiB (e l : Int) : Bool := decide (0 ≤ e ∧ e ≤ l ∧ l ≤ 1048576)

theorem on_calls (n : Int) (w : World) :
    Calls Try.prog 63 #[.int .i64 n] w fun e w' => e = .returned (.bool (decide (0 ≤ n ∧ n < 1024))) ∧ w = w' := by
  by_cases h0 : 0 ≤ n
  · by_cases h1 : n < 1024
    · rw [decide_eq_true (⟨h0, h1⟩ : 0 ≤ n ∧ n < 1024)]
      go_enter Try.func63, Try.ntmps63
      go_wp2
      go_ret
      exact ⟨rfl, rfl⟩
    · rw [decide_eq_false (show ¬ (0 ≤ n ∧ n < 1024) by omega)]
      go_enter Try.func63, Try.ntmps63
      go_wp2
      go_ret
      exact ⟨rfl, rfl⟩
  · rw [decide_eq_false (show ¬ (0 ≤ n ∧ n < 1024) by omega)]
    go_enter Try.func63, Try.ntmps63
    go_wp2
    go_ret
    exact ⟨rfl, rfl⟩

theorem plB_eq (x y : Int) : plB x y = (decide (0 ≤ x ∧ x < 1024) && decide (0 ≤ y ∧ y < 1024)) := by
  unfold plB
  rw [Bool.eq_iff_iff]
  simp
  omega
theorem place_calls (x y : Int) (w : World) :
    Calls Try.prog 55 #[.agg #[.int .i64 x, .int .i64 y]] w fun e w' => e = .returned (.bool (plB x y)) ∧ Below w.heap.size w w' := by
  have hb := (Below.refl w.heap.size w).alloc (Nat.le_refl _) (.cells #[.int .i64 x, .int .i64 y] 31)
  rw [plB_eq]
  have cx := fun w => Lib.hid (on_calls x w)
  have cy := fun w => Lib.hid (on_calls y w)
  generalize decide (0 ≤ x ∧ x < 1024) = p at cx ⊢
  generalize decide (0 ≤ y ∧ y < 1024) = q at cy ⊢
  go_enter Try.func55, Try.ntmps55
  go_wp2_with fail
  refine (cx _).out.mono ?_
  rintro e w' ⟨rfl, rfl⟩
  cases p
  · go_wp2
    go_ret
    exact ⟨rfl, hb⟩
  · go_wp2_with fail
    refine (cy _).out.mono ?_
    rintro e w' ⟨rfl, rfl⟩
    go_wp2
    go_ret
    exact ⟨rfl, hb⟩
theorem span_calls (x y : Int) (w : World) :
    Calls Try.prog 64 #[.agg #[.int .i64 x, .int .i64 y]] w fun e w' => e = .returned (.bool (wiB x y)) ∧ Below w.heap.size w w' := by
  have hb := (Below.refl w.heap.size w).alloc (Nat.le_refl _) (.cells #[.int .i64 x, .int .i64 y] 131)
  by_cases h : 0 ≤ x ∧ x ≤ y ∧ y ≤ 1048576
  · obtain ⟨h0, h1, h2⟩ := h
    have e : wiB x y = true := decide_eq_true ⟨h0, h1, h2⟩
    rw [e]
    clear e
    go_enter Try.func64, Try.ntmps64
    go_wp2
    go_ret
    exact ⟨rfl, hb⟩
  · have e : wiB x y = false := decide_eq_false h
    rw [e]
    clear e
    by_cases h0 : 0 ≤ x
    · by_cases h1 : x ≤ y
      · have h2 : ¬ y ≤ 1048576 := by omega
        clear h
        go_enter Try.func64, Try.ntmps64
        go_wp2
        go_ret
        exact ⟨rfl, hb⟩
      · clear h
        go_enter Try.func64, Try.ntmps64
        go_wp2
        go_ret
        exact ⟨rfl, hb⟩
    · clear h
      go_enter Try.func64, Try.ntmps64
      go_wp2
      go_ret
      exact ⟨rfl, hb⟩
set_option maxRecDepth 100000 in
theorem window_calls (x y : Int) (w : World) :
    Calls Try.prog 56 #[.agg #[.int .i64 x, .int .i64 y]] w fun e w' => e = .returned (.bool (wiB x y)) ∧ Below w.heap.size w w' := by
  have hb := (Below.refl w.heap.size w).alloc (Nat.le_refl _) (.cells #[.int .i64 x, .int .i64 y] 33)
  have hf : ∀ w, (Instr.field 133 (.agg #[.int .i64 x, .int .i64 y, .int .i64 0]) 0).run Try.prog w = .ok (.agg #[.int .i64 x, .int .i64 y]) w := fun w => by kernel_rfl
  go_enter Try.func56, Try.ntmps56
  go_wp2_with fail
  refine (span_calls x y _).mono ?_
  rintro e w1 ⟨rfl, hb1⟩
  go_wp2
  go_ret
  exact ⟨rfl, bt hb hb1⟩
theorem order_within (n a b : Int) (w : World) :
    Calls Try.prog 57 #[.int .i64 n, .int .i64 a, .int .i64 b] w fun e w' => e = .returned (.bool (decide (a ≤ n ∧ n ≤ b))) ∧ w = w' := by
  by_cases h0 : a ≤ n
  · by_cases h1 : n ≤ b
    · rw [decide_eq_true (⟨h0, h1⟩ : a ≤ n ∧ n ≤ b)]
      go_enter Try.func57, Try.ntmps57
      go_wp2
      go_ret
      exact ⟨rfl, rfl⟩
    · rw [decide_eq_false (show ¬ (a ≤ n ∧ n ≤ b) by omega)]
      go_enter Try.func57, Try.ntmps57
      go_wp2
      go_ret
      exact ⟨rfl, rfl⟩
  · rw [decide_eq_false (show ¬ (a ≤ n ∧ n ≤ b) by omega)]
    go_enter Try.func57, Try.ntmps57
    go_wp2
    go_ret
    exact ⟨rfl, rfl⟩

/-- the first code whose need does not hold -/
def firstC (b1 b2 b3 : Bool) : Int := if !b1 then 4 else if !b2 then 5 else if !b3 then 6 else 0
theorem first_calls (B : Nat) (b1 b2 b3 : Bool) (w : World) (hB : Blk w B #[.bool b1, .int .i64 4, .bool b2, .int .i64 5, .bool b3, .int .i64 6] 122) :
    Calls Try.prog 54 #[.slice (some ⟨B, 0, none⟩) 3 3] w fun e w' => e = .returned (.int .i64 (firstC b1 b2 b3)) ∧ Below w.heap.size w w' := by
  have hbl := hB.lt
  have g1 : ∀ o1 : Obj, Below w.heap.size w (w.alloc o1) := fun o1 => (Below.refl _ _).alloc (Nat.le_refl _) o1
  have g2 : ∀ o1 o2 : Obj, Below w.heap.size w ((w.alloc o1).alloc o2) := fun o1 o2 => (g1 o1).alloc (by simp) o2
  have g3 : ∀ o1 o2 o3 : Obj, Below w.heap.size w (((w.alloc o1).alloc o2).alloc o3) := fun o1 o2 o3 => (g2 o1 o2).alloc (g2 o1 o2).size o3
  have c0 := hB.cell (i := 0) rfl
  have c1 := hB.cell (i := 1) rfl
  have c2 := hB.cell (i := 2) rfl
  have c3 := hB.cell (i := 3) rfl
  have c4 := hB.cell (i := 4) rfl
  have c5 := hB.cell (i := 5) rfl
  cases b1
  · go_enter Try.func54, Try.ntmps54
    go_wp2_with fail
    refine wp_loop_rounds 1 ?_
    rw [rounds_succ]; go_wp2_with fail
    go_ret
    exact ⟨rfl, g1 _⟩
  · cases b2
    · go_enter Try.func54, Try.ntmps54
      go_wp2_with fail
      refine wp_loop_rounds 2 ?_
      rw [rounds_succ]; go_wp2_with fail
      rw [rounds_succ]; go_wp2_with fail
      go_ret
      exact ⟨rfl, g2 _ _⟩
    · cases b3
      · go_enter Try.func54, Try.ntmps54
        go_wp2_with fail
        refine wp_loop_rounds 3 ?_
        rw [rounds_succ]; go_wp2_with fail
        rw [rounds_succ]; go_wp2_with fail
        rw [rounds_succ]; go_wp2_with fail
        go_ret
        exact ⟨rfl, g3 _ _ _⟩
      · go_enter Try.func54, Try.ntmps54
        go_wp2_with fail
        refine wp_loop_rounds 4 ?_
        rw [rounds_succ]; go_wp2_with fail
        rw [rounds_succ]; go_wp2_with fail
        rw [rounds_succ]; go_wp2_with fail
        rw [rounds_succ]; go_wp2_with fail
        go_ret
        exact ⟨rfl, g3 _ _ _⟩

/-- a request's numbers may be: the first error -/
def rqCode (x0 x1 x2 x3 x4 x5 x6 x7 x8 x9 : Int) : Int := firstC (plB x0 x1 && plB x2 x3) (wiB x4 x5 && wiB x6 x7) (decide (1 ≤ x8 ∧ x8 ≤ 1000) && decide (0 ≤ x9 ∧ x9 ≤ 1000))

end Go.Proofs.Ytcipdimnbleljaa
namespace Go.Proofs.Ytcipdimnbleljaa
open Go.RowKit

theorem or_eq_zero_iff (a b : BitVec 64) : a ||| b = 0#64 ↔ a = 0#64 ∧ b = 0#64 := by
  constructor
  · intro h
    have h1 := congrArg BitVec.toNat h
    rw [BitVec.toNat_or] at h1
    have h2 : a.toNat ||| b.toNat = 0 := by simpa using h1
    have ha : a.toNat = 0 := by
      have := Nat.left_le_or (n := a.toNat) (m := b.toNat); omega
    have hb : b.toNat = 0 := by
      have := Nat.right_le_or (n := a.toNat) (m := b.toNat); omega
    exact ⟨BitVec.eq_of_toNat_eq (by simpa using ha), BitVec.eq_of_toNat_eq (by simpa using hb)⟩
  · rintro ⟨rfl, rfl⟩; simp

theorem ofInt_zero (a : Int) (h : -9223372036854775808 ≤ a ∧ a < 18446744073709551616) (h' : BitVec.ofInt 64 a = 0#64) : a = 0 := by
  have h1 := congrArg BitVec.toNat h'
  rw [BitVec.toNat_ofInt] at h1
  simp at h1
  omega

theorem or_i64_zero (a b : Int) (ha : -9223372036854775808 ≤ a ∧ a < 9223372036854775808) (hb : -9223372036854775808 ≤ b ∧ b < 9223372036854775808) :
    bits .or .i64 a b = 0 ↔ a = 0 ∧ b = 0 := by
  constructor
  · intro h
    have h1 : IntKind.i64.wrap ((BitVec.ofInt 64 a ||| BitVec.ofInt 64 b).toNat : Int) = 0 := h
    have hlt := (BitVec.ofInt 64 a ||| BitVec.ofInt 64 b).isLt
    have h2 : BitVec.ofInt 64 a ||| BitVec.ofInt 64 b = 0#64 := by
      apply BitVec.eq_of_toNat_eq
      generalize (BitVec.ofInt 64 a ||| BitVec.ofInt 64 b).toNat = n at h1 hlt
      rw [IntKind.wrap_i64] at h1
      simp
      omega
    obtain ⟨h3, h4⟩ := (or_eq_zero_iff _ _).1 h2
    exact ⟨ofInt_zero a (by omega) h3, ofInt_zero b (by omega) h4⟩
  · rintro ⟨rfl, rfl⟩; decide
theorem or_u64_zero (a b : Int) (ha : 0 ≤ a ∧ a < 18446744073709551616) (hb : 0 ≤ b ∧ b < 18446744073709551616) :
    bits .or .u64 a b = 0 ↔ a = 0 ∧ b = 0 := by
  constructor
  · intro h
    have h1 : IntKind.u64.wrap ((BitVec.ofInt 64 a ||| BitVec.ofInt 64 b).toNat : Int) = 0 := h
    have hlt := (BitVec.ofInt 64 a ||| BitVec.ofInt 64 b).isLt
    have h2 : BitVec.ofInt 64 a ||| BitVec.ofInt 64 b = 0#64 := by
      apply BitVec.eq_of_toNat_eq
      generalize (BitVec.ofInt 64 a ||| BitVec.ofInt 64 b).toNat = n at h1 hlt
      rw [IntWalk.u64_in _ (by omega)] at h1
      simp
      omega
    obtain ⟨h3, h4⟩ := (or_eq_zero_iff _ _).1 h2
    exact ⟨ofInt_zero a (by omega) h3, ofInt_zero b (by omega) h4⟩
  · rintro ⟨rfl, rfl⟩; decide
/-- '|' stays in its range -/
theorem or_i64_rg (a b : Int) : -9223372036854775808 ≤ bits .or .i64 a b ∧ bits .or .i64 a b < 9223372036854775808 := by
  have h1 : bits .or .i64 a b = IntKind.i64.wrap ((BitVec.ofInt 64 a ||| BitVec.ofInt 64 b).toNat : Int) := rfl
  rw [h1, IntKind.wrap_i64]
  omega
end Go.Proofs.Ytcipdimnbleljaa
namespace Go.Proofs.Ytcipdimnbleljaa
open Go.RowKit
open Extern.Stop (cell)

/-- a message, by its fields; its marks lie at p -/
structure MV where
  kind : Int
  round : Int
  carrier : Int
  req : Int
  reserve : Int
  rq : Nat → Int
  dg : List UInt8
  ms : List (Int × List UInt8)
  cap : Nat
  p : Option Addr
  bid : Int
  nonce : Int
  state : Int
  winner : Int
  price : Int

/-- the row of a message's cells -/
structure MsgOf (C : Array Value) (m : MV) : Prop where
  size : C.size = 53
  h0 : C[0]? = some (.int .i64 m.kind)
  h1 : C[1]? = some (.int .i64 m.round)
  h2 : C[2]? = some (.int .i64 m.carrier)
  h3 : C[3]? = some (.int .i64 m.req)
  h4 : C[4]? = some (.int .i64 m.reserve)
  h5 : ∀ i, i < 10 → C[5 + i]? = some (.int .i64 (m.rq i))
  h15 : ∀ i, i < 32 → C[15 + i]? = some (cell (m.dg.getD i 0))
  l15 : m.dg.length = 32
  h47 : C[47]? = some (.slice m.p m.ms.length m.cap)
  h48 : C[48]? = some (.int .u64 m.bid)
  h49 : C[49]? = some (.int .u64 m.nonce)
  h50 : C[50]? = some (.int .i64 m.state)
  h51 : C[51]? = some (.int .i64 m.winner)
  h52 : C[52]? = some (.int .u64 m.price)

def I64 (n : Int) : Prop := -9223372036854775808 ≤ n ∧ n < 9223372036854775808
def U64 (n : Int) : Prop := 0 ≤ n ∧ n < 18446744073709551616

/-- the numbers are of their types -/
structure MsgRg (m : MV) : Prop where
  kind : I64 m.kind
  round : I64 m.round
  carrier : I64 m.carrier
  req : I64 m.req
  reserve : I64 m.reserve
  rq : ∀ i, i < 10 → I64 (m.rq i)
  ms : ∀ x ∈ m.ms, I64 x.1
  bid : U64 m.bid
  nonce : U64 m.nonce
  state : I64 m.state
  winner : I64 m.winner
  price : U64 m.price

/-- a mark's cells; all marks' cells -/
def markRow (x : Int × List UInt8) : List Value := .int .i64 x.1 :: x.2.map cell
def mkCells : List (Int × List UInt8) → List Value
  | [] => []
  | x :: r => markRow x ++ mkCells r
theorem markRow_length (x : Int × List UInt8) (h : x.2.length = 32) : (markRow x).length = 33 := by simp [markRow, h]
theorem markRow_one (x : Int × List UInt8) : ∀ v ∈ markRow x, v.oneCell' = true := by
  intro v hv
  simp only [markRow, List.mem_cons, List.mem_map] at hv
  rcases hv with rfl | ⟨b, _, rfl⟩ <;> rfl
theorem mkCells_length : ∀ (ms : List (Int × List UInt8)), (∀ x ∈ ms, x.2.length = 32) → (mkCells ms).length = ms.length * 33
  | [], _ => rfl
  | x :: r, h => by
    rw [mkCells, List.length_append, markRow_length x (h x (by simp)), mkCells_length r (fun y hy => h y (by simp [hy]))]
    simp
    omega
theorem mkCells_one : ∀ (ms : List (Int × List UInt8)), ∀ v ∈ mkCells ms, v.oneCell' = true
  | [], v, hv => by simp [mkCells] at hv
  | x :: r, v, hv => by
    rw [mkCells, List.mem_append] at hv
    rcases hv with hv | hv
    · exact markRow_one x v hv
    · exact mkCells_one r v hv
theorem mkCells_at : ∀ (ms : List (Int × List UInt8)) (k j : Nat) (x : Int × List UInt8), (∀ x ∈ ms, x.2.length = 32) → ms[k]? = some x → j < 33 → (mkCells ms)[k * 33 + j]? = (markRow x)[j]?
  | [], k, j, x, _, hk, _ => by simp at hk
  | y :: r, 0, j, x, h, hk, hj => by
    simp only [List.getElem?_cons_zero, Option.some.injEq] at hk
    subst hk
    rw [mkCells, List.getElem?_append_left (by rw [markRow_length y (h y (by simp))]; omega)]
    simp
  | y :: r, k + 1, j, x, h, hk, hj => by
    simp only [List.getElem?_cons_succ] at hk
    have hl := markRow_length y (h y (by simp))
    rw [mkCells, List.getElem?_append_right (by rw [hl]; omega), hl, show (k + 1) * 33 + j - 33 = k * 33 + j by omega]
    exact mkCells_at r k j x (fun z hz => h z (by simp [hz])) hk hj

theorem addr_add_add (a : Addr) (m n : Nat) : (a.add m).add n = a.add (m + n) := by
  unfold Addr.add
  by_cases hm : m = 0
  · subst hm; simp
  · by_cases hn : n = 0
    · subst hn; simp [hm]
    · simp [hm, hn, Nat.add_assoc]

/-- the marks lie in the world -/
structure MarksAt (w : World) (m : MV) : Prop where
  nil : m.p = none → m.ms = []
  len : ∀ x ∈ m.ms, x.2.length = 32
  big : m.ms.length ≤ 9223372036854775807
  cells : ∀ a, m.p = some a → ∀ j v, (mkCells m.ms)[j]? = some v → w.cell? (a.add j) = some v
theorem MarksAt.row {w : World} {m : MV} (h : MarksAt w m) {a : Addr} (ha : m.p = some a) {k : Nat} {x : Int × List UInt8} (hk : m.ms[k]? = some x) :
    ∀ j v, (markRow x)[j]? = some v → w.cell? ((a.add (k * 33)).add j) = some v := by
  intro j v hj
  have hx := h.len x (List.mem_of_getElem? hk)
  have hl : j < 33 := by
    have := (List.getElem?_eq_some_iff.1 hj).1
    rw [markRow_length x hx] at this
    exact this
  rw [addr_add_add]
  exact h.cells a ha _ v ((mkCells_at m.ms k j x h.len hk hl).trans hj)
theorem MarksAt.mod {w w' : World} {m : MV} {S : Nat → Prop} (h : MarksAt w m) (hm : Mod S w w') (hs : ∀ a, m.p = some a → ¬ S a.block) : MarksAt w' m :=
  ⟨h.nil, h.len, h.big, fun a ha j v hj => hm.cell_of (by rw [show (a.add j).block = a.block by unfold Addr.add; split <;> rfl]; exact hs a ha) (h.cells a ha j v hj)⟩

def inB (n most : Int) : Bool := decide (0 ≤ n ∧ n < most)
def riseB : List (Int × List UInt8) → Bool
  | [] => true
  | [x] => inB x.1 8
  | x :: y :: r => inB x.1 8 && decide (x.1 < y.1) && riseB (y :: r)
def toldB (state winner price : Int) : Bool :=
  if state = 2 ∨ state = 4 then inB winner 8 && decide (price ≤ 16777216) else decide (state = 3 ∧ winner = -1 ∧ price = 0)
def rqZ (rq : Nat → Int) : Bool := (List.range 10).all fun i => rq i == 0
def dgZ (dg : List UInt8) : Bool := dg == List.replicate 32 0
def outZ (m : MV) : Bool := decide (m.state = 0 ∧ m.winner = 0 ∧ m.price = 0)
def ckB (rq : Nat → Int) : Bool := decide (rqCode (rq 0) (rq 1) (rq 2) (rq 3) (rq 4) (rq 5) (rq 6) (rq 7) (rq 8) (rq 9) = 0)

/-- may a message be? -/
def mayB (m : MV) : Bool :=
  inB m.round 16 &&
  (if m.kind = 1 then inB m.req 64 && inB m.reserve 16777217 && ckB m.rq && decide (m.carrier = 0) && decide (m.bid = 0) && decide (m.nonce = 0) && decide (m.ms = []) && dgZ m.dg && outZ m
   else if m.kind = 2 then inB m.carrier 8 && decide (m.req = 0) && decide (m.reserve = 0) && decide (m.bid = 0) && decide (m.nonce = 0) && decide (m.ms = []) && rqZ m.rq && outZ m
   else if m.kind = 3 then riseB m.ms && decide (m.carrier = 0) && decide (m.req = 0) && decide (m.reserve = 0) && decide (m.bid = 0) && decide (m.nonce = 0) && rqZ m.rq && dgZ m.dg && outZ m
   else if m.kind = 4 then inB m.carrier 8 && decide (m.bid ≤ 4294967296) && decide (m.req = 0) && decide (m.reserve = 0) && decide (m.ms = []) && rqZ m.rq && dgZ m.dg && outZ m
   else if m.kind = 5 then toldB m.state m.winner m.price && decide (m.carrier = 0) && decide (m.req = 0) && decide (m.reserve = 0) && decide (m.bid = 0) && decide (m.nonce = 0) && decide (m.ms = []) && rqZ m.rq && dgZ m.dg
   else false)

end Go.Proofs.Ytcipdimnbleljaa
