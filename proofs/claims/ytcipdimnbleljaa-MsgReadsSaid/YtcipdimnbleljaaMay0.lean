/-
  Structs that are loaded from a place, and stored into a variable that was just made: laws of an operation.
  Layer 18 (msg): may: what is left of a message behind its kind's part.
  Layer 18 (msg): within, told, rise.
  Layer 18 (msg): may.
  The document's side of layer 18: SameMarks.
-/
import Derived.Test.YtcipdimnbleljaaBlk
import Derived.Laws.Rows
import Derived.Laws.CopyRow
import Derived.Laws.StructEq
import Derived.Test.YtcipdimnbleljaaMv
import Derived.Test.YtcipdimnbleljaaWr
import Derived.Outline
import Derived.Deep.QuietTactic
import Derived.BigQuiet
import Derived.IntWalk
import Derived.Deep.DeepCutAuto
import Derived.Deep.CutRange
import Derived.Stop.BytesEq
namespace Go.Proofs.Ytcipdimnbleljaa
open Go.RowKit
section
variable {P : Program}

theorem run_loadVar_at (w : World) (p : Addr) (ty : TypeId) (cs : List Value) (d : TypeDesc) (hc : ∀ j v, cs[j]? = some v → w.cell? (p.add j) = some v)
    (hu : P.underlying ty = some d) (hd : (match d with | .struct _ | .array _ _ => true | _ => false) = true) (hi : (P.info? ty).map (·.size) = some cs.length) :
    (loadVar ty p).run P w = .ok (.agg cs.toArray) w := by
  have hl : (loadCells p cs.length).run P w = .ok cs.toArray w := run_loadCells_list (P := P) w p cs hc
  cases hq : P.info? ty with
  | none => simp [hq] at hi
  | some i =>
    have hs : i.size = cs.length := by simpa [hq] using hi
    have hagg : (isAgg ty).run P w = .ok true w := by
      unfold isAgg
      rw [Sem.run_bind, run_underlying hu w]
      cases d <;> simp_all
    simp [loadVar, Sem.run_bind, hagg, sizeOf, typeInfo, hq, hs, hl]
theorem wpList_load_at {ops : Array Oper} {rest : List Oper} {o : Oper} {a : Act} {w : World} {Q : Exit → Act → World → Prop} (hgd : o.guard = none) (ty : TypeId) (x : Operand) (ho : o.op = .load ty x)
    (p : Addr) (hx : a.eval x = .pointer (some p)) (cs : List Value) (d : TypeDesc) (hc : ∀ j v, cs[j]? = some v → w.cell? (p.add j) = some v)
    (hu : P.underlying ty = some d) (hd : (match d with | .struct _ | .array _ _ => true | _ => false) = true) (hi : (P.info? ty).map (·.size) = some cs.length)
    (h : wpList P ops Q rest (a.put o.dst (.agg cs.toArray)) w) : wpList P ops Q (o :: rest) a w :=
  wpList_plain hgd fun _ hK => by
    unfold Oper.wp execOp
    simp only [ho, hx, Instr.loadAt, Instr.sureAddr, Sem.run_bind, Sem.run_pure, Result.andThen_ok, run_loadVar_at w p ty cs d hc hu hd hi]
    exact hK _ _ h
theorem run_storeVar_new (w : World) (ty : TypeId) (C cs : Array Value) (t : TypeId) (hs : C.size = cs.size) (h1 : ∀ v ∈ cs.toList, v.oneCell' = true) (hi : (P.info? ty).map (·.size) = some cs.size) :
    (storeVar ty ⟨w.heap.size, 0, none⟩ (.agg cs)).run P (w.alloc (.cells C t)) = .ok () (w.alloc (.cells cs t)) := by
  have hb : (w.alloc (.cells C t)).heap[w.heap.size]? = some (.cells C t (0, 0)) := World.alloc_heap_new w _
  have e := run_storeCells_at (P := P) w.heap.size 0 t cs.toList 0 C (w.alloc (.cells C t)) hb (by simp; omega) h1
  cases hq : P.info? ty with
  | none => simp [hq] at hi
  | some i =>
    have hs' : i.size = cs.size := by simpa [hq] using hi
    have e2 : (w.alloc (.cells C t)).setRow w.heap.size (C.toList.take (0 + 0) ++ cs.toList ++ C.toList.drop (0 + 0 + cs.toList.length)).toArray = w.alloc (.cells cs t) := by
      have : C.toList.drop (0 + 0 + cs.toList.length) = [] := List.drop_eq_nil_of_le (by simp; omega)
      rw [this]
      simp only [Nat.add_zero, List.take_zero, List.nil_append, List.append_nil, Array.toArray_toList]
      exact setRow_alloc w C cs t
    rw [e2] at e
    simp [storeVar, Sem.run_bind, sizeOf, typeInfo, hq, hs', Value.cells, e]
theorem wpList_store_new {ops : Array Oper} {rest : List Oper} {o : Oper} {a : Act} {w : World} {Q : Exit → Act → World → Prop} (hgd : o.guard = none) (ty : TypeId) (x y : Operand) (ho : o.op = .store ty x y) (hdst : o.dst = none)
    (hx : a.eval x = .pointer (some ⟨w.heap.size, 0, none⟩)) (C cs : Array Value) (t : TypeId) (hy : a.eval y = .agg cs) (hs : C.size = cs.size) (h1 : ∀ v ∈ cs.toList, v.oneCell' = true)
    (hi : (P.info? ty).map (·.size) = some cs.size)
    (h : wpList P ops Q rest a (w.alloc (.cells cs t))) : wpList P ops Q (o :: rest) a (w.alloc (.cells C t)) :=
  wpList_plain hgd fun K_ hK => by
    unfold Oper.wp execOp
    simp only [ho, hx, hy, Instr.storeAt, Instr.sureAddr, Sem.run_bind, Sem.run_pure, Result.andThen_ok, run_storeVar_new w ty C cs t hs h1 hi]
    show K_ (a.put o.dst undef) _
    rw [hdst]
    exact hK _ _ h
theorem run_storeVar_part (w : World) (g o : Nat) (ty : TypeId) (C cs : Array Value) (t : TypeId) (hB : Blk w g C t) (hs : o + cs.size ≤ C.size) (h1 : ∀ v ∈ cs.toList, v.oneCell' = true) (hi : (P.info? ty).map (·.size) = some cs.size) :
    (storeVar ty ⟨g, o, none⟩ (.agg cs)).run P w = .ok () (w.setRow g (C.toList.take o ++ cs.toList ++ C.toList.drop (o + cs.size)).toArray) := by
  have e := run_storeCells_at (P := P) g o t cs.toList 0 C w hB (by simp; omega) h1
  cases hq : P.info? ty with
  | none => simp [hq] at hi
  | some i =>
    have hs' : i.size = cs.size := by simpa [hq] using hi
    simp only [Nat.add_zero, Array.length_toList] at e
    simp [storeVar, Sem.run_bind, sizeOf, typeInfo, hq, hs', Value.cells, e]
theorem wpList_store_part {ops : Array Oper} {rest : List Oper} {o : Oper} {a : Act} {w : World} {Q : Exit → Act → World → Prop} (hgd : o.guard = none) (ty : TypeId) (x y : Operand) (ho : o.op = .store ty x y) (hdst : o.dst = none)
    (g n : Nat) (hx : a.eval x = .pointer (some ⟨g, n, none⟩)) (C cs : Array Value) (t : TypeId) (hB : Blk w g C t) (hy : a.eval y = .agg cs) (hs : n + cs.size ≤ C.size) (h1 : ∀ v ∈ cs.toList, v.oneCell' = true)
    (hi : (P.info? ty).map (·.size) = some cs.size)
    (h : ∀ w' C', Blk w' g C' t → Mod (· = g) w w' → C'.size = C.size → (∀ i : Nat, C'[i]? = if n ≤ i ∧ i < n + cs.size then cs[i - n]? else C[i]?) → wpList P ops Q rest a w') : wpList P ops Q (o :: rest) a w :=
  wpList_plain hgd fun K_ hK => by
    unfold Oper.wp execOp
    simp only [ho, hx, hy, Instr.storeAt, Instr.sureAddr, Sem.run_bind, Sem.run_pure, Result.andThen_ok, run_storeVar_part w g n ty C cs t hB hs h1 hi]
    show K_ (a.put o.dst undef) _
    rw [hdst]
    refine hK _ _ (h _ _ (setRow_heap w g C _ t (0, 0) hB) ⟨rfl, rfl, rfl, by simp [World.setRow], fun k _ hk => setRow_other w g k _ hk⟩ (by simp; omega) (fun i => ?_))
    simp only [List.getElem?_toArray, List.append_assoc]
    by_cases hin : n ≤ i ∧ i < n + cs.size
    · rw [if_pos hin, List.getElem?_append_right (by simp; omega), List.getElem?_append_left (by simp; omega)]
      simp only [List.length_take, Array.length_toList, Array.getElem?_toList]
      congr 1
      omega
    · rw [if_neg hin]
      by_cases hlo : i < n
      · rw [List.getElem?_append_left (by simp; omega), List.getElem?_take_of_lt hlo, Array.getElem?_toList]
      · rw [List.getElem?_append_right (by simp; omega), List.getElem?_append_right (by simp; omega), List.getElem?_drop]
        simp only [List.length_take, Array.length_toList, Array.getElem?_toList]
        congr 1
        omega
/-- an operation whose run is known -/
theorem wpList_v {ops : Array Oper} {rest : List Oper} {o : Oper} {a : Act} {w : World} {Q : Exit → Act → World → Prop} (hgd : Region.wanted o (yielded ops a.tmps) = true) (v : Value)
    (hrun : (execOp a.eval o).run P w = .ok (.value v) w) (h : wpList P ops Q rest (a.put o.dst v) w) : wpList P ops Q (o :: rest) a w :=
  wpList_step fun K hK => by
    rw [if_pos hgd]
    unfold Oper.wp
    rw [hrun]
    exact hK _ _ h
theorem wpList_load_v {ops : Array Oper} {rest : List Oper} {o : Oper} {a : Act} {w : World} {Q : Exit → Act → World → Prop} (hgd : Region.wanted o (yielded ops a.tmps) = true) (ty : TypeId) (x : Operand) (ho : o.op = .load ty x)
    (p : Addr) (hx : a.eval x = .pointer (some p)) (v : Value) (hrun : (loadVar ty p).run P w = .ok v w) (h : wpList P ops Q rest (a.put o.dst v) w) : wpList P ops Q (o :: rest) a w :=
  wpList_v hgd v (by unfold execOp; simp only [ho, hx, Instr.loadAt, Instr.sureAddr, Sem.run_bind, Sem.run_pure, Result.andThen_ok, hrun]) h
theorem wpList_build_v {ops : Array Oper} {rest : List Oper} {o : Oper} {a : Act} {w : World} {Q : Exit → Act → World → Prop} (hgd : Region.wanted o (yielded ops a.tmps) = true) (ty : TypeId) (ho : o.op = .build ty #[])
    (v : Value) (hrun : (Instr.build ty #[]).run P w = .ok v w) (h : wpList P ops Q rest (a.put o.dst v) w) : wpList P ops Q (o :: rest) a w :=
  wpList_v hgd v (by unfold execOp; simp only [ho, List.map_toArray, List.map_nil, Sem.run_bind, hrun, Sem.run_pure, Result.andThen_ok]) h
theorem wpList_eql_v {ops : Array Oper} {rest : List Oper} {o : Oper} {a : Act} {w : World} {Q : Exit → Act → World → Prop} (hgd : Region.wanted o (yielded ops a.tmps) = true) (bop : BinOp) (ty ty2 : TypeId) (x y : Operand) (ho : o.op = .binOp bop ty x y ty2)
    (X Y : Array Value) (hx : a.eval x = .agg X) (hy : a.eval y = .agg Y) (hG : (eqGuard bop ty x y (.agg X) (.agg Y)).run P w = .ok () w) (v : Value) (hrun : (binOp bop ty (.agg X) (.agg Y)).run P w = .ok v w)
    (h : wpList P ops Q rest (a.put o.dst v) w) : wpList P ops Q (o :: rest) a w :=
  wpList_v hgd v (by unfold execOp; simp only [ho, hx, hy, Sem.run_bind, hG, hrun, Sem.run_pure, Result.andThen_ok]) h
end
end Go.Proofs.Ytcipdimnbleljaa
namespace Go.Proofs.Ytcipdimnbleljaa
open Go.RowKit
open Extern.Stop (cell)

def dg0 : List UInt8 := List.replicate 32 0
/-- the message, with its kind's part taken out -/
def MV.strip1 (m : MV) : MV := { m with req := 0, reserve := 0, rq := fun _ => 0 }
def MV.strip2 (m : MV) : MV := { m with carrier := 0, dg := dg0 }
def MV.strip3 (m : MV) : MV := { m with ms := [], cap := 0, p := none }
def MV.strip4 (m : MV) : MV := { m with carrier := 0, bid := 0, nonce := 0 }
def MV.strip5 (m : MV) : MV := { m with state := 0, winner := 0, price := 0 }
def emB (m : MV) : Bool := decide (bits .or .i64 (bits .or .i64 m.carrier m.req) m.reserve = 0) && (decide (bits .or .u64 m.bid m.nonce = 0) && decide ((m.ms.length : Int) = 0))
def tailB (R : Bool) (m : MV) : Bool := R && (emB m && (rqZ m.rq && (dgZ m.dg && outZ m)))

theorem emB_eq (m : MV) (h : MsgRg m) : emB m = (decide (m.carrier = 0) && decide (m.req = 0) && decide (m.reserve = 0) && decide (m.bid = 0) && decide (m.nonce = 0) && decide (m.ms = [])) := by
  unfold emB
  have e1 := or_i64_zero (bits .or .i64 m.carrier m.req) m.reserve (or_i64_rg _ _) h.reserve
  have e2 := or_i64_zero m.carrier m.req h.carrier h.req
  have e3 := or_u64_zero m.bid m.nonce h.bid h.nonce
  have e4 : decide ((m.ms.length : Int) = 0) = decide (m.ms = []) := by
    rw [decide_eq_decide]; constructor
    · intro h; exact List.length_eq_zero_iff.1 (by omega)
    · intro h; rw [h]; rfl
  rw [e4]
  rw [Bool.eq_iff_iff]
  simp only [Bool.and_eq_true, decide_eq_true_eq, e1, e2, e3]
  constructor
  · rintro ⟨⟨⟨a, b⟩, c⟩, ⟨d, e⟩, f⟩; exact ⟨⟨⟨⟨⟨a, b⟩, c⟩, d⟩, e⟩, f⟩
  · rintro ⟨⟨⟨⟨⟨a, b⟩, c⟩, d⟩, e⟩, f⟩; exact ⟨⟨⟨a, b⟩, c⟩, ⟨d, e⟩, f⟩
theorem rg0 : I64 0 := ⟨by omega, by omega⟩
theorem ug0 : U64 0 := ⟨by omega, by omega⟩
theorem dgZ0 : dgZ dg0 = true := by decide
theorem rqZ0 : rqZ (fun _ => 0) = true := by decide
theorem may1_eq (m : MV) (h : MsgRg m) (hk : m.kind = 1) : mayB m = tailB (inB m.round 16 && (inB m.req 64 && (inB m.reserve 16777217 && ckB m.rq))) m.strip1 := by
  unfold mayB tailB
  rw [if_pos hk, emB_eq m.strip1 ⟨h.kind, h.round, h.carrier, rg0, rg0, fun _ _ => rg0, h.ms, h.bid, h.nonce, h.state, h.winner, h.price⟩]
  simp only [MV.strip1, outZ, rqZ0]
  ac_rfl
theorem may2_eq (m : MV) (h : MsgRg m) (hk : m.kind = 2) : mayB m = tailB (inB m.round 16 && inB m.carrier 8) m.strip2 := by
  unfold mayB tailB
  rw [if_neg (by omega), if_pos hk, emB_eq m.strip2 ⟨h.kind, h.round, rg0, h.req, h.reserve, h.rq, h.ms, h.bid, h.nonce, h.state, h.winner, h.price⟩]
  simp only [MV.strip2, outZ, dgZ0, Bool.true_and]
  ac_rfl
theorem may3_eq (m : MV) (h : MsgRg m) (hk : m.kind = 3) : mayB m = tailB (inB m.round 16 && riseB m.ms) m.strip3 := by
  unfold mayB tailB
  rw [if_neg (by omega), if_neg (by omega), if_pos hk, emB_eq m.strip3 ⟨h.kind, h.round, h.carrier, h.req, h.reserve, h.rq, by intro x hx; simp [MV.strip3] at hx, h.bid, h.nonce, h.state, h.winner, h.price⟩]
  simp only [MV.strip3, outZ]
  ac_rfl
theorem may4_eq (m : MV) (h : MsgRg m) (hk : m.kind = 4) : mayB m = tailB (inB m.round 16 && (inB m.carrier 8 && decide (m.bid ≤ 4294967296))) m.strip4 := by
  unfold mayB tailB
  rw [if_neg (by omega), if_neg (by omega), if_neg (by omega), if_pos hk, emB_eq m.strip4 ⟨h.kind, h.round, rg0, h.req, h.reserve, h.rq, h.ms, ug0, ug0, h.state, h.winner, h.price⟩]
  simp only [MV.strip4, outZ]
  ac_rfl
theorem may5_eq (m : MV) (h : MsgRg m) (hk : m.kind = 5) : mayB m = tailB (inB m.round 16 && toldB m.state m.winner m.price) m.strip5 := by
  unfold mayB tailB
  rw [if_neg (by omega), if_neg (by omega), if_neg (by omega), if_neg (by omega), if_pos hk, emB_eq m.strip5 ⟨h.kind, h.round, h.carrier, h.req, h.reserve, h.rq, h.ms, h.bid, h.nonce, rg0, rg0, ug0⟩]
  simp only [MV.strip5, outZ]
  have d2 : decide (True ∧ True ∧ True) = true := by decide
  rw [d2, Bool.and_true]
  ac_rfl

/-- one cell that is not of a part -/
theorem set_ne {C : Array Value} {i j : Nat} {v : Value} (h : i ≠ j) : (C.setIfInBounds i v)[j]? = C[j]? := Array.getElem?_setIfInBounds_ne h
theorem set_eq {C : Array Value} {i : Nat} {v : Value} (h : i < C.size) : (C.setIfInBounds i v)[i]? = some v := by
  rw [Array.getElem?_setIfInBounds]; simp [h]

set_option maxRecDepth 100000 in
set_option maxHeartbeats 1000000 in
theorem strip1_of {C : Array Value} {m : MV} (h : MsgOf C m) : MsgOf ((((((((((((C.setIfInBounds 3 (Value.int .i64 0)).setIfInBounds 4 (Value.int .i64 0)).setIfInBounds 5 (Value.int .i64 0)).setIfInBounds 6 (Value.int .i64 0)).setIfInBounds 7 (Value.int .i64 0)).setIfInBounds 8 (Value.int .i64 0)).setIfInBounds 9 (Value.int .i64 0)).setIfInBounds 10 (Value.int .i64 0)).setIfInBounds 11 (Value.int .i64 0)).setIfInBounds 12 (Value.int .i64 0)).setIfInBounds 13 (Value.int .i64 0)).setIfInBounds 14 (Value.int .i64 0)) m.strip1 := by
  have hs := h.size
  refine ⟨by simp only [Array.size_setIfInBounds]; exact hs, ?_, ?_, ?_, ?_, ?_, ?_, ?_, h.l15, ?_, ?_, ?_, ?_, ?_, ?_⟩
  · repeat rw [set_ne (by omega)]
    exact h.h0
  · repeat rw [set_ne (by omega)]
    exact h.h1
  · repeat rw [set_ne (by omega)]
    exact h.h2
  · simp [hs, MV.strip1]
  · simp [hs, MV.strip1]
  · intro i hi
    match i, hi with
    | 0, _ => simp [hs, MV.strip1]
    | 1, _ => simp [hs, MV.strip1]
    | 2, _ => simp [hs, MV.strip1]
    | 3, _ => simp [hs, MV.strip1]
    | 4, _ => simp [hs, MV.strip1]
    | 5, _ => simp [hs, MV.strip1]
    | 6, _ => simp [hs, MV.strip1]
    | 7, _ => simp [hs, MV.strip1]
    | 8, _ => simp [hs, MV.strip1]
    | 9, _ => simp [hs, MV.strip1]
    | i + 10, hi => exact absurd hi (by omega)
  · intro i hi
    repeat rw [set_ne (by omega)]
    exact h.h15 i hi
  · repeat rw [set_ne (by omega)]
    exact h.h47
  · repeat rw [set_ne (by omega)]
    exact h.h48
  · repeat rw [set_ne (by omega)]
    exact h.h49
  · repeat rw [set_ne (by omega)]
    exact h.h50
  · repeat rw [set_ne (by omega)]
    exact h.h51
  · repeat rw [set_ne (by omega)]
    exact h.h52

set_option maxRecDepth 100000 in
set_option maxHeartbeats 1000000 in
theorem strip2_of {C : Array Value} {m : MV} (h : MsgOf C m) : MsgOf (((((((((((((((((((((((((((((((((C.setIfInBounds 2 (Value.int .i64 0)).setIfInBounds 15 (Value.int .u8 0)).setIfInBounds 16 (Value.int .u8 0)).setIfInBounds 17 (Value.int .u8 0)).setIfInBounds 18 (Value.int .u8 0)).setIfInBounds 19 (Value.int .u8 0)).setIfInBounds 20 (Value.int .u8 0)).setIfInBounds 21 (Value.int .u8 0)).setIfInBounds 22 (Value.int .u8 0)).setIfInBounds 23 (Value.int .u8 0)).setIfInBounds 24 (Value.int .u8 0)).setIfInBounds 25 (Value.int .u8 0)).setIfInBounds 26 (Value.int .u8 0)).setIfInBounds 27 (Value.int .u8 0)).setIfInBounds 28 (Value.int .u8 0)).setIfInBounds 29 (Value.int .u8 0)).setIfInBounds 30 (Value.int .u8 0)).setIfInBounds 31 (Value.int .u8 0)).setIfInBounds 32 (Value.int .u8 0)).setIfInBounds 33 (Value.int .u8 0)).setIfInBounds 34 (Value.int .u8 0)).setIfInBounds 35 (Value.int .u8 0)).setIfInBounds 36 (Value.int .u8 0)).setIfInBounds 37 (Value.int .u8 0)).setIfInBounds 38 (Value.int .u8 0)).setIfInBounds 39 (Value.int .u8 0)).setIfInBounds 40 (Value.int .u8 0)).setIfInBounds 41 (Value.int .u8 0)).setIfInBounds 42 (Value.int .u8 0)).setIfInBounds 43 (Value.int .u8 0)).setIfInBounds 44 (Value.int .u8 0)).setIfInBounds 45 (Value.int .u8 0)).setIfInBounds 46 (Value.int .u8 0)) m.strip2 := by
  have hs := h.size
  refine ⟨by simp only [Array.size_setIfInBounds]; exact hs, ?_, ?_, ?_, ?_, ?_, ?_, ?_, show dg0.length = 32 by decide, ?_, ?_, ?_, ?_, ?_, ?_⟩
  · repeat rw [set_ne (by omega)]
    exact h.h0
  · repeat rw [set_ne (by omega)]
    exact h.h1
  · simp [hs, MV.strip2]
  · repeat rw [set_ne (by omega)]
    exact h.h3
  · repeat rw [set_ne (by omega)]
    exact h.h4
  · intro i hi
    repeat rw [set_ne (by omega)]
    exact h.h5 i hi
  · intro i hi
    match i, hi with
    | 0, _ => simp [hs, MV.strip2]; rfl
    | 1, _ => simp [hs, MV.strip2]; rfl
    | 2, _ => simp [hs, MV.strip2]; rfl
    | 3, _ => simp [hs, MV.strip2]; rfl
    | 4, _ => simp [hs, MV.strip2]; rfl
    | 5, _ => simp [hs, MV.strip2]; rfl
    | 6, _ => simp [hs, MV.strip2]; rfl
    | 7, _ => simp [hs, MV.strip2]; rfl
    | 8, _ => simp [hs, MV.strip2]; rfl
    | 9, _ => simp [hs, MV.strip2]; rfl
    | 10, _ => simp [hs, MV.strip2]; rfl
    | 11, _ => simp [hs, MV.strip2]; rfl
    | 12, _ => simp [hs, MV.strip2]; rfl
    | 13, _ => simp [hs, MV.strip2]; rfl
    | 14, _ => simp [hs, MV.strip2]; rfl
    | 15, _ => simp [hs, MV.strip2]; rfl
    | 16, _ => simp [hs, MV.strip2]; rfl
    | 17, _ => simp [hs, MV.strip2]; rfl
    | 18, _ => simp [hs, MV.strip2]; rfl
    | 19, _ => simp [hs, MV.strip2]; rfl
    | 20, _ => simp [hs, MV.strip2]; rfl
    | 21, _ => simp [hs, MV.strip2]; rfl
    | 22, _ => simp [hs, MV.strip2]; rfl
    | 23, _ => simp [hs, MV.strip2]; rfl
    | 24, _ => simp [hs, MV.strip2]; rfl
    | 25, _ => simp [hs, MV.strip2]; rfl
    | 26, _ => simp [hs, MV.strip2]; rfl
    | 27, _ => simp [hs, MV.strip2]; rfl
    | 28, _ => simp [hs, MV.strip2]; rfl
    | 29, _ => simp [hs, MV.strip2]; rfl
    | 30, _ => simp [hs, MV.strip2]; rfl
    | 31, _ => simp [hs, MV.strip2]; rfl
    | i + 32, hi => exact absurd hi (by omega)
  · repeat rw [set_ne (by omega)]
    exact h.h47
  · repeat rw [set_ne (by omega)]
    exact h.h48
  · repeat rw [set_ne (by omega)]
    exact h.h49
  · repeat rw [set_ne (by omega)]
    exact h.h50
  · repeat rw [set_ne (by omega)]
    exact h.h51
  · repeat rw [set_ne (by omega)]
    exact h.h52

set_option maxRecDepth 100000 in
set_option maxHeartbeats 1000000 in
theorem strip3_of {C : Array Value} {m : MV} (h : MsgOf C m) : MsgOf (C.setIfInBounds 47 (Value.slice none 0 0)) m.strip3 := by
  have hs := h.size
  refine ⟨by simp only [Array.size_setIfInBounds]; exact hs, ?_, ?_, ?_, ?_, ?_, ?_, ?_, h.l15, ?_, ?_, ?_, ?_, ?_, ?_⟩
  · repeat rw [set_ne (by omega)]
    exact h.h0
  · repeat rw [set_ne (by omega)]
    exact h.h1
  · repeat rw [set_ne (by omega)]
    exact h.h2
  · repeat rw [set_ne (by omega)]
    exact h.h3
  · repeat rw [set_ne (by omega)]
    exact h.h4
  · intro i hi
    repeat rw [set_ne (by omega)]
    exact h.h5 i hi
  · intro i hi
    repeat rw [set_ne (by omega)]
    exact h.h15 i hi
  · simp [hs, MV.strip3]
  · repeat rw [set_ne (by omega)]
    exact h.h48
  · repeat rw [set_ne (by omega)]
    exact h.h49
  · repeat rw [set_ne (by omega)]
    exact h.h50
  · repeat rw [set_ne (by omega)]
    exact h.h51
  · repeat rw [set_ne (by omega)]
    exact h.h52

set_option maxRecDepth 100000 in
set_option maxHeartbeats 1000000 in
theorem strip4_of {C : Array Value} {m : MV} (h : MsgOf C m) : MsgOf (((C.setIfInBounds 2 (Value.int .i64 0)).setIfInBounds 48 (Value.int .u64 0)).setIfInBounds 49 (Value.int .u64 0)) m.strip4 := by
  have hs := h.size
  refine ⟨by simp only [Array.size_setIfInBounds]; exact hs, ?_, ?_, ?_, ?_, ?_, ?_, ?_, h.l15, ?_, ?_, ?_, ?_, ?_, ?_⟩
  · repeat rw [set_ne (by omega)]
    exact h.h0
  · repeat rw [set_ne (by omega)]
    exact h.h1
  · simp [hs, MV.strip4]
  · repeat rw [set_ne (by omega)]
    exact h.h3
  · repeat rw [set_ne (by omega)]
    exact h.h4
  · intro i hi
    repeat rw [set_ne (by omega)]
    exact h.h5 i hi
  · intro i hi
    repeat rw [set_ne (by omega)]
    exact h.h15 i hi
  · repeat rw [set_ne (by omega)]
    exact h.h47
  · simp [hs, MV.strip4]
  · simp [hs, MV.strip4]
  · repeat rw [set_ne (by omega)]
    exact h.h50
  · repeat rw [set_ne (by omega)]
    exact h.h51
  · repeat rw [set_ne (by omega)]
    exact h.h52

set_option maxRecDepth 100000 in
set_option maxHeartbeats 1000000 in
theorem strip5_of {C : Array Value} {m : MV} (h : MsgOf C m) : MsgOf (((C.setIfInBounds 50 (Value.int .i64 0)).setIfInBounds 51 (Value.int .i64 0)).setIfInBounds 52 (Value.int .u64 0)) m.strip5 := by
  have hs := h.size
  refine ⟨by simp only [Array.size_setIfInBounds]; exact hs, ?_, ?_, ?_, ?_, ?_, ?_, ?_, h.l15, ?_, ?_, ?_, ?_, ?_, ?_⟩
  · repeat rw [set_ne (by omega)]
    exact h.h0
  · repeat rw [set_ne (by omega)]
    exact h.h1
  · repeat rw [set_ne (by omega)]
    exact h.h2
  · repeat rw [set_ne (by omega)]
    exact h.h3
  · repeat rw [set_ne (by omega)]
    exact h.h4
  · intro i hi
    repeat rw [set_ne (by omega)]
    exact h.h5 i hi
  · intro i hi
    repeat rw [set_ne (by omega)]
    exact h.h15 i hi
  · repeat rw [set_ne (by omega)]
    exact h.h47
  · repeat rw [set_ne (by omega)]
    exact h.h48
  · repeat rw [set_ne (by omega)]
    exact h.h49
  · simp [hs, MV.strip5]
  · simp [hs, MV.strip5]
  · simp [hs, MV.strip5]

theorem strip2_part {C D : Array Value} {m : MV} (h : MsgOf C m) (hs : D.size = 53) (hg : ∀ i : Nat, D[i]? = if 15 ≤ i ∧ i < 15 + 32 then (#[Value.int .u8 0, Value.int .u8 0, Value.int .u8 0, Value.int .u8 0, Value.int .u8 0, Value.int .u8 0, Value.int .u8 0, Value.int .u8 0, Value.int .u8 0, Value.int .u8 0, Value.int .u8 0, Value.int .u8 0, Value.int .u8 0, Value.int .u8 0, Value.int .u8 0, Value.int .u8 0, Value.int .u8 0, Value.int .u8 0, Value.int .u8 0, Value.int .u8 0, Value.int .u8 0, Value.int .u8 0, Value.int .u8 0, Value.int .u8 0, Value.int .u8 0, Value.int .u8 0, Value.int .u8 0, Value.int .u8 0, Value.int .u8 0, Value.int .u8 0, Value.int .u8 0, Value.int .u8 0] : Array Value)[i - 15]? else (C.setIfInBounds 2 (Value.int .i64 0))[i]?) : MsgOf D m.strip2 := by
  have hc := h.size
  refine ⟨hs, ?_, ?_, ?_, ?_, ?_, ?_, ?_, (show dg0.length = 32 by decide), ?_, ?_, ?_, ?_, ?_, ?_⟩
  · rw [hg, if_neg (by omega), set_ne (by omega)]; exact h.h0
  · rw [hg, if_neg (by omega), set_ne (by omega)]; exact h.h1
  · rw [hg, if_neg (by omega), set_eq (by omega)]; rfl
  · rw [hg, if_neg (by omega), set_ne (by omega)]; exact h.h3
  · rw [hg, if_neg (by omega), set_ne (by omega)]; exact h.h4
  · intro i hi
    rw [hg, if_neg (by omega), set_ne (by omega)]; exact h.h5 i hi
  · intro i hi
    rw [hg, if_pos (by omega), show 15 + i - 15 = i by omega]
    match i, hi with
    | 0, _ => rfl
    | 1, _ => rfl
    | 2, _ => rfl
    | 3, _ => rfl
    | 4, _ => rfl
    | 5, _ => rfl
    | 6, _ => rfl
    | 7, _ => rfl
    | 8, _ => rfl
    | 9, _ => rfl
    | 10, _ => rfl
    | 11, _ => rfl
    | 12, _ => rfl
    | 13, _ => rfl
    | 14, _ => rfl
    | 15, _ => rfl
    | 16, _ => rfl
    | 17, _ => rfl
    | 18, _ => rfl
    | 19, _ => rfl
    | 20, _ => rfl
    | 21, _ => rfl
    | 22, _ => rfl
    | 23, _ => rfl
    | 24, _ => rfl
    | 25, _ => rfl
    | 26, _ => rfl
    | 27, _ => rfl
    | 28, _ => rfl
    | 29, _ => rfl
    | 30, _ => rfl
    | 31, _ => rfl
    | i + 32, hi => exact absurd hi (by omega)
  · rw [hg, if_neg (by omega), set_ne (by omega)]; exact h.h47
  · rw [hg, if_neg (by omega), set_ne (by omega)]; exact h.h48
  · rw [hg, if_neg (by omega), set_ne (by omega)]; exact h.h49
  · rw [hg, if_neg (by omega), set_ne (by omega)]; exact h.h50
  · rw [hg, if_neg (by omega), set_ne (by omega)]; exact h.h51
  · rw [hg, if_neg (by omega), set_ne (by omega)]; exact h.h52
end Go.Proofs.Ytcipdimnbleljaa
namespace Go.Proofs.Ytcipdimnbleljaa
open Go.RowKit
open Extern.Stop (cell)

theorem within_calls (n m : Int) (w : World) :
    Calls Try.prog 31 #[.int .i64 n, .int .i64 m] w fun e w' => e = .returned (.bool (inB n m)) ∧ w = w' := by
  unfold inB
  by_cases h0 : 0 ≤ n
  · by_cases h1 : n < m
    · rw [decide_eq_true (⟨h0, h1⟩ : 0 ≤ n ∧ n < m)]
      go_enter Try.func31, Try.ntmps31
      go_wp2
      go_ret
      exact ⟨rfl, rfl⟩
    · rw [decide_eq_false (show ¬ (0 ≤ n ∧ n < m) by omega)]
      go_enter Try.func31, Try.ntmps31
      go_wp2
      go_ret
      exact ⟨rfl, rfl⟩
  · rw [decide_eq_false (show ¬ (0 ≤ n ∧ n < m) by omega)]
    go_enter Try.func31, Try.ntmps31
    go_wp2
    go_ret
    exact ⟨rfl, rfl⟩

theorem told_calls (s o p : Int) (w : World) :
    Calls Try.prog 39 #[.agg #[.int .i64 s, .int .i64 o, .int .u64 p]] w fun e w' => e = .returned (.bool (toldB s o p)) ∧ Below w.heap.size w w' := by
  have hb := (Below.refl w.heap.size w).alloc (Nat.le_refl _) (.cells #[.int .i64 s, .int .i64 o, .int .u64 p] 40)
  have hw := fun w => Lib.hid (within_calls o 8 w)
  unfold toldB
  by_cases h2 : s = 2
  · subst h2
    rw [if_pos (.inl rfl)]
    generalize inB o 8 = q at hw ⊢
    go_enter Try.func39, Try.ntmps39
    go_wp2_with fail
    refine (hw _).out.mono ?_
    rintro e w1 ⟨rfl, rfl⟩
    cases q
    · go_wp2
      go_ret
      exact ⟨rfl, hb⟩
    · go_wp2
      go_ret
      exact ⟨rfl, hb⟩
  · by_cases h4 : s = 4
    · subst h4
      rw [if_pos (.inr rfl)]
      generalize inB o 8 = q at hw ⊢
      go_enter Try.func39, Try.ntmps39
      go_wp2_with fail
      refine (hw _).out.mono ?_
      rintro e w1 ⟨rfl, rfl⟩
      cases q
      · go_wp2
        go_ret
        exact ⟨rfl, hb⟩
      · go_wp2
        go_ret
        exact ⟨rfl, hb⟩
    · rw [if_neg (by omega)]
      clear hw
      have he := fun w => eql_outcome w s o p 3 (-1) 0
      have i2 : (s == (2 : Int)) = false := by simpa using h2
      have i4 : (s == (4 : Int)) = false := by simpa using h4
      go_enter Try.func39, Try.ntmps39
      go_wp2_with fail
      go_ret
      exact ⟨(show _ = Ending.returned (.bool _) from rfl).trans (by simp [Bool.decide_and]), hb⟩

theorem riseB_snoc (l : List (Int × List UInt8)) (x : Int × List UInt8) :
    riseB (l ++ [x]) = (riseB l && (inB x.1 8 && (match l.getLast? with | none => true | some y => decide (y.1 < x.1)))) := by
  induction l with
  | nil => simp [riseB]
  | cons y r ih =>
    cases r with
    | nil => simp [riseB]; cases inB y.1 8 <;> simp [Bool.and_comm]
    | cons z r =>
      have e : riseB (y :: z :: r ++ [x]) = (inB y.1 8 && decide (y.1 < z.1) && riseB (z :: r ++ [x])) := rfl
      rw [e, ih, riseB]
      simp [Bool.and_assoc]
theorem riseB_take {l : List (Int × List UInt8)} {k : Nat} (h : riseB (l.take k) = false) : riseB l = false := by
  induction l generalizing k with
  | nil => simpa using h
  | cons y r ih =>
    cases k with
    | zero => simp [riseB] at h
    | succ k =>
      cases r with
      | nil => simpa [riseB] using h
      | cons z r =>
        cases k with
        | zero => simp [riseB] at h; simp [riseB, h]
        | succ k =>
          simp only [List.take_succ_cons, riseB] at h
          by_cases h1 : riseB (z :: List.take k r) = false
          · have := ih (k := k + 1) (by simpa using h1)
            simp [riseB, this]
          · have h1' : riseB (z :: List.take k r) = true := by simpa using h1
            rw [h1', Bool.and_true] at h
            simp only [riseB, h, Bool.false_and]


theorem riseB_step {l : List (Int × List UInt8)} {k : Nat} (x : Int × List UInt8) (hk : l[k]? = some x) (h : riseB (l.take k) = true) :
    riseB (l.take (k + 1)) = (inB x.1 8 && (if k = 0 then true else decide ((l.getD (k - 1) (0, [])).1 < x.1))) := by
  have hlt := (List.getElem?_eq_some_iff.1 hk).1
  rw [List.take_succ_eq_append_getElem hlt, riseB_snoc, h, (List.getElem?_eq_some_iff.1 hk).2]
  cases k with
  | zero => simp
  | succ k =>
    rw [List.getLast?_take, if_neg (by omega)]
    simp [List.getD_eq_getElem?_getD, List.getElem?_eq_getElem (show k < l.length by omega)]

theorem below_drewN {B : Nat} {a w : World} (h : Below B a w) (n : Nat) : Below B a (w.drewN n) := ⟨h.os, h.tape, h.output, h.size, h.block⟩

set_option maxHeartbeats 2000000 in
set_option maxRecDepth 100000 in
theorem rise_calls (m : MV) (w : World) (hM : MarksAt w m) :
    Calls Try.prog 38 #[.slice m.p m.ms.length m.cap] w fun e w' => e = .returned (.bool (riseB m.ms)) ∧ Below w.heap.size w w' := by
  have hbig := hM.big
  cases hp : m.p with
  | none =>
    have hn := hM.nil hp
    rw [hn]
    go_enter Try.func38, Try.ntmps38
    go_wp2_with fail
    refine wp_loop_rounds 1 ?_
    rw [rounds_succ]; go_wp2_with fail
    go_ret
    exact ⟨rfl, Below.refl _ _⟩
  | some a =>
    have hw : ∀ x w, Hid (Calls Try.prog 31 #[.int .i64 x, .int .i64 8] w fun e w' => e = .returned (.bool (inB x 8)) ∧ w = w') := fun x w => Lib.hid (within_calls x 8 w)
    have HM := Lib.hid hM
    have HP := Lib.hid hp
    clear hM hp
    go_enter Try.func38, Try.ntmps38
    go_wp2_with fail
    go_loopw [7] (fun i wr => ∃ k : Nat, k ≤ m.ms.length ∧ i = .int .i64 k ∧ riseB (m.ms.take k) = true ∧ Below w.heap.size w wr) (fun i _ => m.ms.length - (intOf i).toNat)
    case atStart => exact ⟨0, Nat.zero_le _, rfl, rfl, Below.refl _ _⟩
    case round =>
      obtain ⟨k, hk, rfl, hrise, hbw⟩ := hrel
      have HR := Lib.hid hrise
      clear hrise
      by_cases hlt : k < m.ms.length
      · have hkx : m.ms[k]? = some m.ms[k] := List.getElem?_eq_getElem hlt
        have hload := (HM.out.mod ((Mod.refl (fun _ => False) w).after hbw) (by simp)).row HP.out hkx
        have HL := Lib.hid hload
        clear hload
        have hsz : (Try.prog.info? 65).map (·.size) = some (markRow m.ms[k]).length := by
          rw [markRow_length _ (HM.out.len _ (List.getElem_mem hlt))]; kernel_rfl
        have HS := Lib.hid hsz
        clear hsz
        have HI := Lib.hid (show (mkZero.cells).size = (markRow m.ms[k]).toArray.size by simp [markRow_length _ (HM.out.len _ (List.getElem_mem hlt))]; rfl)
        have HT := Lib.hid (riseB_step m.ms[k] hkx HR.out)
        obtain ⟨wo, hwo⟩ : ∃ wo, wo = wr.alloc (.cells (markRow m.ms[k]).toArray 65) := ⟨_, rfl⟩
        have k0 : wo.cell? ⟨wr.heap.size, 0, none⟩ = some (.int .i64 (m.ms[k]).1) := by rw [hwo]; exact (Blk.new wr (markRow m.ms[k]).toArray 65).cell (i := 0) (by simp [markRow])
        have hbo : Below w.heap.size w wo := by rw [hwo]; exact hbw.alloc hbw.size _
        have kp : 0 < k → wo.cell? (a.add ((k - 1) * 33)) = some (.int .i64 (m.ms.getD (k - 1) (0, [])).1) := fun h => by
          have hk1 : m.ms[k - 1]? = some m.ms[k - 1] := List.getElem?_eq_getElem (by omega)
          have := ((HM.out.mod ((Mod.refl (fun _ => False) w).after (Below.mono hbo (Nat.le_refl _))) (by simp)).row HP.out hk1) 0 (.int .i64 m.ms[k - 1].1) rfl
          simpa [List.getD_eq_getElem?_getD, hk1, Addr.add_zero'] using this
        go_wp2_with (first | (refine wpList_load_at rfl 65 _ rfl (a.add (k * 33)) rfl (markRow m.ms[k]) _ HL.out Try.underlying65 rfl HS.out ?_) | (refine wpList_store_new rfl 65 _ _ rfl rfl rfl _ (markRow m.ms[k]).toArray _ rfl (by exact HI.out) (markRow_one _) HS.out ?_))
        rw [← hwo]
        clear hwo HL HS HI
        have hq := hw m.ms[k].1
        generalize inB m.ms[k].1 8 = q at hq HT
        cases q
        · go_quiet ((go_at_call 31; exact Calls.quiet_of_same ((hq _).out.mono fun _ _ h => ⟨h.1, h.2.symm⟩)))
          go_wp2
          go_ret
          exact ⟨by rw [riseB_take (k := k + 1) (by rw [HT.out]; rfl)]; rfl, below_drewN hbo _⟩
        · by_cases h0 : 0 < k
          · have hk0 : decide ((k : Int) > 0) = true := decide_eq_true (by omega)
            have kq := kp h0
            clear kp
            rw [if_neg (by omega)] at HT
            generalize (m.ms.getD (k - 1) (0, [])).1 = y at kq HT
            have hi1 : IntKind.i64.wrap ((k : Int) - 1) = ((k - 1 : Nat) : Int) := by
              rw [show (k : Int) - 1 = ((k - 1 : Nat) : Int) by omega]; exact IntWalk.i64_in _ (by omega)
            have hi2 : (0 : Int) ≤ ((k - 1 : Nat) : Int) := by omega
            have hi3 : ((k - 1 : Nat) : Int) < (m.ms.length : Int) := by omega
            have hi4 : (((k - 1 : Nat) : Int)).toNat = k - 1 := by omega
            go_quiet ((go_at_call 31; exact Calls.quiet_of_same ((hq _).out.mono fun _ _ h => ⟨h.1, h.2.symm⟩)))
            clear hi1 hi2 hi3 hi4
            by_cases hle : m.ms[k].1 ≤ y
            · go_wp2
              go_ret
              exact ⟨by rw [riseB_take (k := k + 1) (by rw [HT.out]; simp; omega)]; rfl, below_drewN hbo _⟩
            · go_wp2
              go_roundw
              case rel => exact ⟨k + 1, by omega, by go_num, by rw [HT.out]; simp; omega, below_drewN hbo _⟩
              case measure => simp [intOf]; omega
          · obtain rfl : k = 0 := by omega
            have hk0 : decide (((0 : Nat) : Int) > 0) = false := rfl
            clear kp
            go_quiet ((go_at_call 31; exact Calls.quiet_of_same ((hq _).out.mono fun _ _ h => ⟨h.1, h.2.symm⟩)))
            go_wp2
            go_roundw
            case rel => exact ⟨1, by omega, rfl, by rw [HT.out]; rfl, below_drewN hbo _⟩
            case measure => simp [intOf]; omega
      · obtain rfl : k = m.ms.length := by omega
        go_wp2
        go_ret
        have := HR.out
        rw [List.take_length] at this
        exact ⟨by rw [this]; rfl, hbw⟩
end Go.Proofs.Ytcipdimnbleljaa
namespace Go.Proofs.Ytcipdimnbleljaa
open Go.RowKit
open Extern.Stop (cell)

theorem marks_below {w w' : World} {m : MV} (h : MarksAt w m) (hb : Below w.heap.size w w') : MarksAt w' m :=
  ⟨h.nil, h.len, h.big, fun a ha j v hj => (hb.cell (p := a.add j) (World.block_lt_of_cell? w (a.add j) (h.cells a ha j v hj))).trans (h.cells a ha j v hj)⟩
theorem wp_world {P : Program} {c : Code} {Q : Exit → Act → World → Prop} {a : Act} {W : World} (R : World → Prop) (h : R W) (k : ∀ wx, R wx → c.wp P Q a wx) : c.wp P Q a W := k W h
theorem load_part {P : Program} (wx : World) (B : Nat) (D : Array Value) (t : TypeId) (hB : Blk wx B D t) (o n : Nat) (ho : o + n ≤ D.size) (ty : TypeId) (d : TypeDesc)
    (hu : P.underlying ty = some d) (hd : (match d with | .struct _ | .array _ _ => true | _ => false) = true) (hi : (P.info? ty).map (·.size) = some n) :
    (loadVar ty ⟨B, o, none⟩).run P wx = .ok (.agg (D.extract o (o + n))) wx := by
  have h := run_loadVar_at (P := P) wx ⟨B, o, none⟩ ty (D.extract o (o + n)).toList d (fun j v hj => by
    have hlt : j < n := by
      have := (List.getElem?_eq_some_iff.1 hj).1
      simp at this
      omega
    have e : (⟨B, o, none⟩ : Addr).add j = ⟨B, o + j, none⟩ := by unfold Addr.add; split <;> simp_all
    rw [e]
    refine hB.cell ?_
    rw [Array.getElem?_toList, Array.getElem?_extract_of_lt (by omega)] at hj
    rw [← hj]
    exact Array.getElem?_eq_getElem _) hu hd (by rw [hi]; simp; omega)
  rw [Array.toArray_toList] at h
  exact h
theorem ext_row {D X : Array Value} {o n : Nat} (ho : o + n ≤ D.size) (hX : X.size = n) (h : ∀ i, i < n → D[o + i]? = X[i]?) : D.extract o (o + n) = X := by
  apply Array.ext_getElem?
  intro i
  by_cases hi : i < n
  · rw [Array.getElem?_extract_of_lt (by omega), ← h i hi]
    exact (Array.getElem?_eq_getElem _).symm
  · rw [Array.getElem?_eq_none (by simp; omega), Array.getElem?_eq_none (by omega)]

structure Pack (T : TypeId) (B o : Nat) (wx : World) (X Z : Array Value) (q : Bool) : Prop where
  load : (loadVar T ⟨B, o, none⟩).run Try.prog wx = .ok (.agg X) wx
  zero : (Instr.build T #[]).run Try.prog wx = .ok (.agg Z) wx
  guard : ∀ x y, (eqGuard .eql T x y (.agg X) (.agg Z)).run Try.prog wx = .ok () wx
  same : (binOp .eql T (.agg X) (.agg Z)).run Try.prog wx = .ok (.bool q) wx
theorem req_pack (wx : World) (B : Nat) (D : Array Value) (m : MV) (t : TypeId) (hB : Blk wx B D t) (hM : MsgOf D m) : ∃ X Z, Pack 35 B 5 wx X Z (rqZ m.rq) := by
  refine ⟨_, #[.int .i64 0, .int .i64 0, .int .i64 0, .int .i64 0, .int .i64 0, .int .i64 0, .int .i64 0, .int .i64 0, .int .i64 0, .int .i64 0], ⟨load_part wx B D t hB 5 10 (by rw [hM.size]; omega) 35 _ Try.underlying35 rfl (by kernel_rfl), by kernel_rfl, fun x y => run_eqGuard_agg _ _ _ _ _ _ _ (by kernel_rfl), ?_⟩⟩
  rw [ext_row (D := D) (o := 5) (n := 10) (X := #[.int .i64 (m.rq 0), .int .i64 (m.rq 1), .int .i64 (m.rq 2), .int .i64 (m.rq 3), .int .i64 (m.rq 4), .int .i64 (m.rq 5), .int .i64 (m.rq 6), .int .i64 (m.rq 7), .int .i64 (m.rq 8), .int .i64 (m.rq 9)]) (by rw [hM.size]; omega) rfl (fun i hi => by rw [hM.h5 i hi]; match i, hi with | 0, _ => rfl | 1, _ => rfl | 2, _ => rfl | 3, _ => rfl | 4, _ => rfl | 5, _ => rfl | 6, _ => rfl | 7, _ => rfl | 8, _ => rfl | 9, _ => rfl | i + 10, hi => exact absurd hi (by omega))]
  exact eql_request wx m.rq (fun _ => 0)
theorem dig_pack (wx : World) (B : Nat) (D : Array Value) (m : MV) (t : TypeId) (hB : Blk wx B D t) (hM : MsgOf D m) : ∃ X Z, Pack 37 B 15 wx X Z (dgZ m.dg) := by
  refine ⟨_, #[.int .u8 0, .int .u8 0, .int .u8 0, .int .u8 0, .int .u8 0, .int .u8 0, .int .u8 0, .int .u8 0, .int .u8 0, .int .u8 0, .int .u8 0, .int .u8 0, .int .u8 0, .int .u8 0, .int .u8 0, .int .u8 0, .int .u8 0, .int .u8 0, .int .u8 0, .int .u8 0, .int .u8 0, .int .u8 0, .int .u8 0, .int .u8 0, .int .u8 0, .int .u8 0, .int .u8 0, .int .u8 0, .int .u8 0, .int .u8 0, .int .u8 0, .int .u8 0], ⟨load_part wx B D t hB 15 32 (by rw [hM.size]; omega) 37 _ Try.underlying37 rfl (by kernel_rfl), by kernel_rfl, fun x y => run_eqGuard_agg _ _ _ _ _ _ _ (by kernel_rfl), ?_⟩⟩
  rw [ext_row (D := D) (o := 15) (n := 32) (X := (m.dg.map cell).toArray) (by rw [hM.size]; omega) (by simp [hM.l15]) (fun i hi => by
    have : i < m.dg.length := by rw [hM.l15]; exact hi
    rw [hM.h15 i hi]; simp [List.getD_eq_getElem?_getD, this])]
  exact eql_digest wx _ _ m.dg (List.replicate 32 0) (by simp) rfl hM.l15 (by simp)
theorem out_pack (wx : World) (B : Nat) (D : Array Value) (m : MV) (t : TypeId) (hB : Blk wx B D t) (hM : MsgOf D m) : ∃ X Z, Pack 40 B 50 wx X Z (outZ m) := by
  refine ⟨_, #[.int .i64 0, .int .i64 0, .int .u64 0], ⟨load_part wx B D t hB 50 3 (by rw [hM.size]; omega) 40 _ Try.underlying40 rfl (by kernel_rfl), by kernel_rfl, fun x y => run_eqGuard_agg _ _ _ _ _ _ _ (by kernel_rfl), ?_⟩⟩
  rw [ext_row (D := D) (o := 50) (n := 3) (X := #[.int .i64 m.state, .int .i64 m.winner, .int .u64 m.price]) (by rw [hM.size]; omega) rfl (fun i hi => by
    match i, hi with | 0, _ => exact hM.h50 | 1, _ => exact hM.h51 | 2, _ => exact hM.h52 | i + 3, hi => exact absurd hi (by omega))]
  exact eql_outcome wx m.state m.winner m.price 0 0 0
end Go.Proofs.Ytcipdimnbleljaa
namespace Go.Proofs.Ytcipdimnbleljaa
open Go.RowKit
open Extern.Stop (cell)

theorem neq_mark (w : World) (x y : Int × List UInt8) (hx : x.2.length = 32) (hy : y.2.length = 32) :
    (binOp .neq 65 (.agg (markRow x).toArray) (.agg (markRow y).toArray)).run Try.prog w = .ok (.bool (!decide (x = y))) w := by
  have hd : ∀ w, (Op.equalIn 9999 37 (.agg (x.2.map cell).toArray) (.agg (y.2.map cell).toArray)).run Try.prog w = .ok (x.2 == y.2) w := fun w =>
    run_equalIn_bytes w 9997 37 5 32 Try.underlying37 Try.underlying5 (fun w => by kernel_rfl) x.2 y.2 hx hy
  have t1 : List.take 32 (List.map cell x.2) = List.map cell x.2 := List.take_of_length_le (by simp [hx])
  have t2 : List.take 32 (List.map cell y.2) = List.map cell y.2 := List.take_of_length_le (by simp [hy])
  unfold markRow
  go_simp
  by_cases h1 : x.1 = y.1
  · rw [if_pos h1]
    by_cases h2 : x.2 = y.2
    · have e : x = y := Prod.ext h1 h2
      subst e
      simp
    · have e : ¬ x = y := fun e => h2 (by rw [e])
      simp [h2, e]
  · have e : ¬ x = y := fun e => h1 (by rw [e])
    rw [if_neg h1]
    simp [e]

/-- an operation of a quiet region whose run is known -/
theorem wpQuiet_v {P : Program} {ops : Array Oper} {C : World → Prop} {Q : Act → Prop} {rest : List Oper} {o : Oper} {a : Act} (hgd : Region.wanted o (yielded ops a.tmps) = true) (v : Value)
    (hrun : ∀ w, C w → (execOp a.eval o).run P w = .ok (.value v) w) (h : wpQuiet P ops C Q rest (a.put o.dst v)) : wpQuiet P ops C Q (o :: rest) a := by
  unfold wpQuiet
  rw [if_pos hgd]
  exact ⟨v, fun w hw => by unfold Oper.quietAt; rw [hrun w hw]; exact ⟨rfl, rfl⟩, h⟩
theorem run_load_v {P : Program} {ρ : Operand → Value} {o : Oper} {w : World} {ty : TypeId} {x : Operand} (ho : o.op = .load ty x) {p : Addr} (hx : ρ x = .pointer (some p)) {v : Value} (hrun : (loadVar ty p).run P w = .ok v w) :
    (execOp ρ o).run P w = .ok (.value v) w := by
  unfold execOp; simp only [ho, hx, Instr.loadAt, Instr.sureAddr, Sem.run_bind, Sem.run_pure, Result.andThen_ok, hrun]
theorem run_bin_v {P : Program} {ρ : Operand → Value} {o : Oper} {w : World} {bop : BinOp} {ty ty2 : TypeId} {x y : Operand} (ho : o.op = .binOp bop ty x y ty2) {X Y : Array Value} (hx : ρ x = .agg X) (hy : ρ y = .agg Y)
    (hm : P.eqGuardType P.depth ty = false) {v : Value} (hrun : (binOp bop ty (.agg X) (.agg Y)).run P w = .ok v w) : (execOp ρ o).run P w = .ok (.value v) w := by
  unfold execOp; simp only [ho, hx, hy, Sem.run_bind, run_eqGuard_agg w bop ty x y X Y hm, hrun, Sem.run_pure, Result.andThen_ok]

/-- marks that lie in a world, without a message -/
structure MksAt (w : World) (p : Option Addr) (ms : List (Int × List UInt8)) : Prop where
  nil : p = none → ms = []
  len : ∀ x ∈ ms, x.2.length = 32
  big : ms.length ≤ 9223372036854775807
  cells : ∀ a, p = some a → ∀ j v, (mkCells ms)[j]? = some v → w.cell? (a.add j) = some v
theorem MarksAt.mks {w : World} {m : MV} (h : MarksAt w m) : MksAt w m.p m.ms := ⟨h.nil, h.len, h.big, h.cells⟩
theorem MksAt.below {w w' : World} {p : Option Addr} {ms : List (Int × List UInt8)} (h : MksAt w p ms) (hb : Below w.heap.size w w') : MksAt w' p ms :=
  ⟨h.nil, h.len, h.big, fun a ha j v hj => (hb.cell (p := a.add j) (World.block_lt_of_cell? w (a.add j) (h.cells a ha j v hj))).trans (h.cells a ha j v hj)⟩
theorem MksAt.load {P : Program} {w : World} {p : Option Addr} {ms : List (Int × List UInt8)} (h : MksAt w p ms) {a : Addr} (ha : p = some a) {k : Nat} (hk : k < ms.length) {ty : TypeId} {d : TypeDesc}
    (hu : P.underlying ty = some d) (hd : (match d with | .struct _ | .array _ _ => true | _ => false) = true) (hi : (P.info? ty).map (·.size) = some 33) :
    (loadVar ty (a.add (k * 33))).run P w = .ok (.agg (markRow ms[k]).toArray) w := by
  have hx := h.len _ (List.getElem_mem hk)
  refine run_loadVar_at w _ ty (markRow ms[k]) d (fun j v hj => ?_) hu hd (by rw [hi, markRow_length _ hx])
  have hl : j < 33 := by
    have := (List.getElem?_eq_some_iff.1 hj).1
    rw [markRow_length _ hx] at this
    exact this
  rw [addr_add_add]
  exact h.cells a ha _ v ((mkCells_at ms k j ms[k] h.len (List.getElem?_eq_getElem hk) hl).trans hj)

set_option maxHeartbeats 2000000 in
set_option maxRecDepth 100000 in
theorem sameMarks_calls (p q : Option Addr) (xs ys : List (Int × List UInt8)) (c d : Nat) (w : World) (hA : MksAt w p xs) (hB : MksAt w q ys) :
    Calls Try.prog 34 #[.slice p xs.length c, .slice q ys.length d] w fun e w' => e = .returned (.bool (decide (xs = ys))) ∧ Below w.heap.size w w' := by
  have hbx := hA.big
  have hby := hB.big
  by_cases hl : xs.length = ys.length
  · have hX : ∃ X, decide (xs = ys) = X := ⟨_, rfl⟩
    obtain ⟨X, hX⟩ := hX
    rw [hX]
    replace hX := Lib.hid hX
    have HA := Lib.hid hA
    have HB := Lib.hid hB
    have HL := Lib.hid hl
    rw [← hl]
    clear hA hB hl hby
    go_enter Try.func34, Try.ntmps34
    go_wp2_with fail
    go_loopw [5] (fun i wr => ∃ k : Nat, k ≤ xs.length ∧ i = .int .i64 k ∧ xs.take k = ys.take k ∧ ∃ n, wr = w.drewN n) (fun i _ => xs.length - (intOf i).toNat)
    case atStart => exact ⟨0, Nat.zero_le _, rfl, rfl, 0, rfl⟩
    case round =>
      obtain ⟨k, hk, rfl, htake, n, rfl⟩ := hrel
      have HT := Lib.hid htake
      clear htake
      by_cases hlt : k < xs.length
      · have hlt' : k < ys.length := by rw [← HL.out]; exact hlt
        have hltI : (k : Int) < (xs.length : Int) := by omega
        have hk0 : (0 : Int) ≤ (k : Int) := by omega
        obtain ⟨a, ha⟩ : ∃ a, p = some a := by
          cases hp : p with
          | some a => exact ⟨a, rfl⟩
          | none => have := HA.out.nil hp; rw [this] at hlt; simp at hlt
        obtain ⟨b, hb⟩ : ∃ b, q = some b := by
          cases hq : q with
          | some b => exact ⟨b, rfl⟩
          | none => have := HB.out.nil hq; rw [this] at hlt'; simp at hlt'
        subst ha hb
        have hla := Lib.hid (fun n => (HA.out.below (below_drewN (Below.refl _ w) n)).load (P := Try.prog) rfl hlt Try.underlying65 rfl (by kernel_rfl))
        have hlb := Lib.hid (fun n => (HB.out.below (below_drewN (Below.refl _ w) n)).load (P := Try.prog) rfl hlt' Try.underlying65 rfl (by kernel_rfl))
        have hne := Lib.hid (fun w => neq_mark w xs[k] ys[k] (HA.out.len _ (List.getElem_mem hlt)) (HB.out.len _ (List.getElem_mem hlt')))
        have hst : decide (xs[k] = ys[k]) = true → xs.take (k + 1) = ys.take (k + 1) := fun h => by
          rw [List.take_succ_eq_append_getElem hlt, List.take_succ_eq_append_getElem hlt', HT.out, of_decide_eq_true h]
        have hsf : decide (xs[k] = ys[k]) = false → decide (xs = ys) = false := fun h => decide_eq_false (fun e => by
          subst e; simp at h)
        have HST := Lib.hid hst
        have HSF := Lib.hid hsf
        clear hst hsf
        generalize decide (xs[k] = ys[k]) = g at hne HST HSF
        go_wp2_with fail
        refine wp_region_quiet_lit (by kernel_rfl) (by kernel_rfl) ?_
        go_big_quiet_step (fail)
        go_big_quiet_step (fail)
        go_big_quiet_step (fail)
        refine wpQuiet_v rfl (.agg (markRow xs[k]).toArray) (by rintro _ ⟨j, rfl⟩; rw [World.drewN_drewN]; exact run_load_v rfl rfl (hla.out _)) ?_
        simp only [Act.put, List.setIfInBounds_toArray, List.set_cons_succ, List.set_cons_zero]
        go_big_quiet_step (fail)
        go_big_quiet_step (fail)
        go_big_quiet_step (fail)
        refine wpQuiet_v rfl (.agg (markRow ys[k]).toArray) (by rintro _ ⟨j, rfl⟩; rw [World.drewN_drewN]; exact run_load_v rfl rfl (hlb.out _)) ?_
        simp only [Act.put, List.setIfInBounds_toArray, List.set_cons_succ, List.set_cons_zero]
        refine wpQuiet_v rfl (.bool (!g)) (by rintro _ ⟨j, rfl⟩; exact run_bin_v rfl rfl rfl (by kernel_rfl) (hne.out _)) ?_
        simp only [Act.put, List.setIfInBounds_toArray, List.set_cons_succ, List.set_cons_zero]
        refine wpQuiet_nil ?_
        rintro _ ⟨j, rfl⟩
        rw [World.drewN_drewN]
        cases g
        · have HF := Lib.hid (HSF.out rfl)
          clear HSF HST
          go_wp2
          go_ret
          exact ⟨by rw [← hX.out, HF.out]; rfl, below_drewN (Below.refl _ _) _⟩
        · have HF := Lib.hid (HST.out rfl)
          clear HSF HST
          go_wp2
          go_roundw
          case rel => exact ⟨k + 1, by omega, by go_num, HF.out, _, rfl⟩
          case measure => simp [intOf]; omega
      · obtain rfl : k = xs.length := by omega
        have e : xs = ys := by
          have := HT.out
          rw [List.take_length, HL.out, List.take_length] at this
          exact this
        go_wp2
        go_ret
        exact ⟨by rw [← hX.out, decide_eq_true e]; rfl, below_drewN (Below.refl _ _) _⟩
  · rw [decide_eq_false (fun e => hl (by rw [e]))]
    go_enter Try.func34, Try.ntmps34
    go_wp2_with fail
    go_ret
    exact ⟨rfl, Below.refl _ _⟩
end Go.Proofs.Ytcipdimnbleljaa
