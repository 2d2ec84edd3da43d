/-
  The messages of the law MsgKnown, as plain values; rows of messages.
  What the literals of the law MsgKnown run to.
-/
import Derived.Test.YtcipdimnbleljaaBkP
import Derived.Test.YtcipdimnbleljaaWorks
import Derived.Test.YtcipdimnbleljaaDm3P
import Derived.Great.BuildSlice
namespace Go.Proofs.Ytcipdimnbleljaa
open Go.RowKit
open Extern.Stop (cell)

/-- the cells of a message whose digest is zero -/
def mkC (m : MV) : Array Value := #[.int .i64 m.kind, .int .i64 m.round, .int .i64 m.carrier, .int .i64 m.req, .int .i64 m.reserve, .int .i64 (m.rq 0), .int .i64 (m.rq 1), .int .i64 (m.rq 2), .int .i64 (m.rq 3), .int .i64 (m.rq 4), .int .i64 (m.rq 5), .int .i64 (m.rq 6), .int .i64 (m.rq 7), .int .i64 (m.rq 8), .int .i64 (m.rq 9), .int .u8 0, .int .u8 0, .int .u8 0, .int .u8 0, .int .u8 0, .int .u8 0, .int .u8 0, .int .u8 0, .int .u8 0, .int .u8 0, .int .u8 0, .int .u8 0, .int .u8 0, .int .u8 0, .int .u8 0, .int .u8 0, .int .u8 0, .int .u8 0, .int .u8 0, .int .u8 0, .int .u8 0, .int .u8 0, .int .u8 0, .int .u8 0, .int .u8 0, .int .u8 0, .int .u8 0, .int .u8 0, .int .u8 0, .int .u8 0, .int .u8 0, .int .u8 0, .slice m.p m.ms.length m.cap, .int .u64 m.bid, .int .u64 m.nonce, .int .i64 m.state, .int .i64 m.winner, .int .u64 m.price]
theorem mkC_size (m : MV) : (mkC m).size = 53 := rfl
theorem mkC_of (m : MV) (h : m.dg = dg0) : MsgOf (mkC m) m := by
  refine ⟨rfl, rfl, rfl, rfl, rfl, rfl, ?_, ?_, by rw [h]; rfl, rfl, rfl, rfl, rfl, rfl, rfl⟩
  · intro i hi
    match i, hi with
    | 0, _ => rfl
    | 1, _ => rfl
    | 2, _ => rfl
    | 3, _ => rfl
    | 4, _ => rfl
    | 5, _ => rfl
    | 6, _ => rfl
    | 7, _ => rfl
    | 8, _ => rfl
    | 9, _ => rfl
    | i + 10, hi => exact absurd hi (by omega)
  · intro i hi
    rw [h]
    match i, hi with
    | 0, _ => rfl
    | 1, _ => rfl
    | 2, _ => rfl
    | 3, _ => rfl
    | 4, _ => rfl
    | 5, _ => rfl
    | 6, _ => rfl
    | 7, _ => rfl
    | 8, _ => rfl
    | 9, _ => rfl
    | 10, _ => rfl
    | 11, _ => rfl
    | 12, _ => rfl
    | 13, _ => rfl
    | 14, _ => rfl
    | 15, _ => rfl
    | 16, _ => rfl
    | 17, _ => rfl
    | 18, _ => rfl
    | 19, _ => rfl
    | 20, _ => rfl
    | 21, _ => rfl
    | 22, _ => rfl
    | 23, _ => rfl
    | 24, _ => rfl
    | 25, _ => rfl
    | 26, _ => rfl
    | 27, _ => rfl
    | 28, _ => rfl
    | 29, _ => rfl
    | 30, _ => rfl
    | 31, _ => rfl
    | i + 32, hi => exact absurd hi (by omega)
theorem mkC_one (m : MV) : ∀ v ∈ (mkC m).toList, v.oneCell' = true := by
  intro v hv
  simp only [mkC, List.mem_cons, List.not_mem_nil, or_false] at hv
  rcases hv with rfl | rfl | rfl | rfl | rfl | rfl | rfl | rfl | rfl | rfl | rfl | rfl | rfl | rfl | rfl | rfl | rfl | rfl | rfl | rfl | rfl | rfl | rfl | rfl | rfl | rfl | rfl | rfl | rfl | rfl | rfl | rfl | rfl | rfl | rfl | rfl | rfl | rfl | rfl | rfl | rfl | rfl | rfl | rfl | rfl | rfl | rfl | rfl | rfl | rfl | rfl | rfl | rfl <;> rfl

/-! Messages that may be, and messages that may not. -/
def my0 : MV := { zeroM with kind := 4, bid := 4294967296, nonce := 18446744073709551615, carrier := 7 }
def my1 : MV := { zeroM with kind := 2, round := 15 }
def my2 : MV := { zeroM with kind := 5, state := 4, winner := 7, price := 16777216 }
def my3 : MV := { zeroM with kind := 1, req := 63, reserve := 16777216, rq := fun i => if i = 5 then 1048576 else if i = 8 then 1000 else if i = 9 then 1000 else 0 }
def bd0 : MV := zeroM
def bd1 : MV := { zeroM with kind := 6 }
def bd2 : MV := { zeroM with kind := -1 }
def bd3 : MV := { zeroM with kind := 4, bid := 4294967297 }
def bd4 : MV := { zeroM with kind := 4, carrier := 8 }
def bd5 : MV := { zeroM with kind := 4, req := 1 }
def bd6 : MV := { zeroM with kind := 2, round := 16 }
def bd7 : MV := { zeroM with kind := 2, round := -1 }
def bd8 : MV := { zeroM with kind := 2, carrier := -1 }
def bd9 : MV := { zeroM with kind := 2, nonce := 1 }
def bd10 : MV := { zeroM with kind := 3, carrier := 1 }
def bd11 (g : Nat) : MV := { zeroM with kind := 3, ms := [(0, dg0), (0, dg0)], cap := 2, p := some ⟨g, 0, none⟩ }
def bd12 (g : Nat) : MV := { zeroM with kind := 3, ms := [(8, dg0)], cap := 1, p := some ⟨g + 1, 0, none⟩ }
def bd13 (g : Nat) : MV := { zeroM with kind := 3, ms := [(3, dg0), (2, dg0)], cap := 2, p := some ⟨g + 2, 0, none⟩ }
def bd14 : MV := { zeroM with kind := 5 }
def bd15 : MV := { zeroM with kind := 5, state := 3 }
def bd16 : MV := { zeroM with kind := 5, state := 2, winner := -1 }
def bd17 : MV := { zeroM with kind := 5, state := 2, price := 16777217 }
def bd18 : MV := { zeroM with kind := 5, state := 5 }
def bd19 : MV := { zeroM with kind := 1 }
def bd20 : MV := { zeroM with kind := 1, req := 64, rq := fun i => if i = 8 then 1 else 0 }
def bd21 : MV := { zeroM with kind := 1, reserve := -1, rq := fun i => if i = 8 then 1 else 0 }
def mys : List MV := [my0, my1, my2, my3]
def bds (g : Nat) : List MV := [bd0, bd1, bd2, bd3, bd4, bd5, bd6, bd7, bd8, bd9, bd10, bd11 g, bd12 g, bd13 g, bd14, bd15, bd16, bd17, bd18, bd19, bd20, bd21]
instance (n : Int) : Decidable (I64 n) := by unfold I64; infer_instance
instance (n : Int) : Decidable (U64 n) := by unfold U64; infer_instance
theorem rg_lit {m : MV} (h : (decide (I64 m.kind) && (decide (I64 m.round) && (decide (I64 m.carrier) && (decide (I64 m.req) && (decide (I64 m.reserve) && (((List.range 10).all fun i => decide (I64 (m.rq i))) && ((m.ms.all fun x => decide (I64 x.1)) && (decide (U64 m.bid) && (decide (U64 m.nonce) && (decide (I64 m.state) && (decide (I64 m.winner) && decide (U64 m.price)))))))))))) = true) : MsgRg m := by
  simp only [Bool.and_eq_true, decide_eq_true_eq, List.all_eq_true, List.mem_range] at h
  obtain ⟨a, b, c, d, e, f, g, i, j, k, l, n⟩ := h
  exact ⟨a, b, c, d, e, f, g, i, j, k, l, n⟩
theorem may_good : ∀ m ∈ mys, Good m ∧ m.dg = dg0 ∧ m.ms = [] := by
  intro m hm
  simp only [mys, List.mem_cons, List.not_mem_nil, or_false] at hm
  rcases hm with rfl | rfl | rfl | rfl
  · exact ⟨⟨by decide, rg_lit (by decide), by decide, fun x hx => by cases hx⟩, rfl, rfl⟩
  · exact ⟨⟨by decide, rg_lit (by decide), by decide, fun x hx => by cases hx⟩, rfl, rfl⟩
  · exact ⟨⟨by decide, rg_lit (by decide), by decide, fun x hx => by cases hx⟩, rfl, rfl⟩
  · exact ⟨⟨by decide, rg_lit (by decide), by decide, fun x hx => by cases hx⟩, rfl, rfl⟩
theorem bds_no : ∀ (g : Nat), ∀ m ∈ bds g, mayB m = false ∧ MsgRg m ∧ m.dg = dg0 := by
  intro g m hm
  simp only [bds, List.mem_cons, List.not_mem_nil, or_false] at hm
  rcases hm with rfl | rfl | rfl | rfl | rfl | rfl | rfl | rfl | rfl | rfl | rfl | rfl | rfl | rfl | rfl | rfl | rfl | rfl | rfl | rfl | rfl | rfl
  · exact ⟨(by show mayB bd0 = false; decide), rg_lit (by decide), rfl⟩
  · exact ⟨(by show mayB bd1 = false; decide), rg_lit (by decide), rfl⟩
  · exact ⟨(by show mayB bd2 = false; decide), rg_lit (by decide), rfl⟩
  · exact ⟨(by show mayB bd3 = false; decide), rg_lit (by decide), rfl⟩
  · exact ⟨(by show mayB bd4 = false; decide), rg_lit (by decide), rfl⟩
  · exact ⟨(by show mayB bd5 = false; decide), rg_lit (by decide), rfl⟩
  · exact ⟨(by show mayB bd6 = false; decide), rg_lit (by decide), rfl⟩
  · exact ⟨(by show mayB bd7 = false; decide), rg_lit (by decide), rfl⟩
  · exact ⟨(by show mayB bd8 = false; decide), rg_lit (by decide), rfl⟩
  · exact ⟨(by show mayB bd9 = false; decide), rg_lit (by decide), rfl⟩
  · exact ⟨(by show mayB bd10 = false; decide), rg_lit (by decide), rfl⟩
  · exact ⟨(by show mayB (bd11 0) = false; decide), rg_lit (by show _ = true; exact (show (decide (I64 (bd11 0).kind) && (decide (I64 (bd11 0).round) && (decide (I64 (bd11 0).carrier) && (decide (I64 (bd11 0).req) && (decide (I64 (bd11 0).reserve) && (((List.range 10).all fun i => decide (I64 ((bd11 0).rq i))) && (((bd11 0).ms.all fun x => decide (I64 x.1)) && (decide (U64 (bd11 0).bid) && (decide (U64 (bd11 0).nonce) && (decide (I64 (bd11 0).state) && (decide (I64 (bd11 0).winner) && decide (U64 (bd11 0).price)))))))))))) = true by decide)), rfl⟩
  · exact ⟨(by show mayB (bd12 0) = false; decide), rg_lit (by show _ = true; exact (show (decide (I64 (bd12 0).kind) && (decide (I64 (bd12 0).round) && (decide (I64 (bd12 0).carrier) && (decide (I64 (bd12 0).req) && (decide (I64 (bd12 0).reserve) && (((List.range 10).all fun i => decide (I64 ((bd12 0).rq i))) && (((bd12 0).ms.all fun x => decide (I64 x.1)) && (decide (U64 (bd12 0).bid) && (decide (U64 (bd12 0).nonce) && (decide (I64 (bd12 0).state) && (decide (I64 (bd12 0).winner) && decide (U64 (bd12 0).price)))))))))))) = true by decide)), rfl⟩
  · exact ⟨(by show mayB (bd13 0) = false; decide), rg_lit (by show _ = true; exact (show (decide (I64 (bd13 0).kind) && (decide (I64 (bd13 0).round) && (decide (I64 (bd13 0).carrier) && (decide (I64 (bd13 0).req) && (decide (I64 (bd13 0).reserve) && (((List.range 10).all fun i => decide (I64 ((bd13 0).rq i))) && (((bd13 0).ms.all fun x => decide (I64 x.1)) && (decide (U64 (bd13 0).bid) && (decide (U64 (bd13 0).nonce) && (decide (I64 (bd13 0).state) && (decide (I64 (bd13 0).winner) && decide (U64 (bd13 0).price)))))))))))) = true by decide)), rfl⟩
  · exact ⟨(by show mayB bd14 = false; decide), rg_lit (by decide), rfl⟩
  · exact ⟨(by show mayB bd15 = false; decide), rg_lit (by decide), rfl⟩
  · exact ⟨(by show mayB bd16 = false; decide), rg_lit (by decide), rfl⟩
  · exact ⟨(by show mayB bd17 = false; decide), rg_lit (by decide), rfl⟩
  · exact ⟨(by show mayB bd18 = false; decide), rg_lit (by decide), rfl⟩
  · exact ⟨(by show mayB bd19 = false; decide), rg_lit (by decide), rfl⟩
  · exact ⟨(by show mayB bd20 = false; decide), rg_lit (by decide), rfl⟩
  · exact ⟨(by show mayB bd21 = false; decide), rg_lit (by decide), rfl⟩

/-! Rows of messages. -/
def rowOf (L : List (Array Value)) : Array Value := (L.flatMap Array.toList).toArray
theorem rowOf_get : ∀ (L : List (Array Value)), (∀ C ∈ L, C.size = 53) → ∀ k, (rowOf L)[k]? = (L[k / 53]?).bind fun C => C[k % 53]?
  | [], _, k => by simp [rowOf]
  | C :: r, h, k => by
    have hC := h C (by simp)
    have ih := rowOf_get r (fun D hD => h D (by simp [hD])) (k - 53)
    have e : (rowOf (C :: r))[k]? = (C.toList ++ r.flatMap Array.toList)[k]? := by simp [rowOf]
    rw [e]
    by_cases hk : k < 53
    · rw [List.getElem?_append_left (by simpa [hC] using hk), show k / 53 = 0 by omega, show k % 53 = k by omega]
      simp
    · rw [List.getElem?_append_right (by simp [hC]; omega), Array.length_toList, hC]
      have e2 : (rowOf r)[k - 53]? = (r.flatMap Array.toList)[k - 53]? := by simp [rowOf]
      rw [← e2, ih, show k / 53 = (k - 53) / 53 + 1 by omega, show k % 53 = (k - 53) % 53 by omega]
      simp
theorem rowOf_size (L : List (Array Value)) (h : ∀ C ∈ L, C.size = 53) : (rowOf L).size = L.length * 53 := by
  induction L with
  | nil => rfl
  | cons C r ih =>
    have e : (rowOf (C :: r)).size = C.size + (rowOf r).size := by simp [rowOf]
    rw [e, ih (fun D hD => h D (by simp [hD])), h C (by simp), List.length_cons]
    omega
theorem rowOf_part (L : List (Array Value)) (h : ∀ C ∈ L, C.size = 53) (i : Nat) (C : Array Value) (hC : L[i]? = some C) : (rowOf L).extract (i * 53) (i * 53 + 53) = C := by
  have hCs := h C (List.mem_of_getElem? hC)
  have hl := (List.getElem?_eq_some_iff.1 hC).1
  have hz := rowOf_size L h
  apply Array.ext_getElem?
  intro k
  by_cases hk : k < 53
  · rw [Array.getElem?_extract_of_lt (by omega), ← Array.getElem?_eq_getElem, rowOf_get L h, show (i * 53 + k) / 53 = i by omega, show (i * 53 + k) % 53 = k by omega, hC]
    rfl
  · rw [Array.getElem?_eq_none (by simp; omega), Array.getElem?_eq_none (by omega)]
section
variable {P : Program}
theorem run_rowOf (w : World) (t e : TypeId) (n : Nat) (parts : Array (Nat × Value)) (L : List (Array Value)) (hn : L.length = n) (h0 : 0 < n) (h24 : n ≤ 1000) (h : ∀ C ∈ L, C.size = 53)
    (hp : parts.toList = ((L.map Value.agg).zipIdx 0).map fun x => (x.2, x.1))
    (hu : P.underlying t = some (.slice e)) (hs : (P.info? e).map (·.size) = some 53) (hz : ((P.info? e).bind (·.zero)).isSome = true) :
    (Instr.buildSlice t n parts).run P w = .ok (.slice (some ⟨w.heap.size, 0, none⟩) n n) (w.alloc (.cells (rowOf L) e)) := by
  cases hie : P.info? e with
  | none => simp [hie] at hs
  | some ie =>
    simp only [hie, Option.map_some, Option.some.injEq, Option.bind_some] at hs hz
    obtain ⟨z, hzz⟩ := Option.isSome_iff_exists.1 hz
    refine run_buildSlice w t e n parts (rowOf L) ie z hu hie hzz (by rw [hs]; omega) (by rw [hs]; omega) ?_
    rw [hp, hs]
    obtain ⟨r, h1, h2, h3⟩ := Great.fill_dense (s := 53) (by omega) (L.map Value.agg) 0 ((Array.range (n * 53)).map (z.cells[· % z.cells.size]!)) (by
      intro v hv
      obtain ⟨C, hC, rfl⟩ := List.mem_map.1 hv
      exact h C hC) (by simp [hn])
    rw [h1]
    congr 1
    apply Array.ext_getElem?
    intro k
    rw [h3 k, rowOf_get L h]
    by_cases hk : k < n * 53
    · rw [if_pos (by simp only [List.length_map, hn]; omega)]
      simp only [Nat.sub_zero, List.getElem?_map]
      cases L[k / 53]? <;> rfl
    · rw [if_neg (by simp only [List.length_map, hn]; omega), Array.getElem?_eq_none (by simp; omega), List.getElem?_eq_none (by omega)]
      rfl
end
end Go.Proofs.Ytcipdimnbleljaa
namespace Go.Proofs.Ytcipdimnbleljaa
open Go.RowKit
open Extern.Stop (cell)

def mkR (c : Int) : Array Value := (markRow (c, dg0)).toArray
def mk2 (a b : Int) : Array Value := (mkCells [(a, dg0), (b, dg0)]).toArray
def mk1 (a : Int) : Array Value := (mkCells [(a, dg0)]).toArray
theorem rmy0 (w : World) : (Instr.build 42 #[(0, .int .i64 4), (8, .int .u64 4294967296), (9, .int .u64 18446744073709551615), (2, .int .i64 7)]).run Try.prog w = .ok (.agg (mkC my0)) w := by kernel_rfl
theorem rmy1 (w : World) : (Instr.build 42 #[(0, .int .i64 2), (1, .int .i64 15)]).run Try.prog w = .ok (.agg (mkC my1)) w := by kernel_rfl
theorem rmy2 (w : World) : (Instr.build 42 #[(0, .int .i64 5), (10, .agg #[.int .i64 4, .int .i64 7, .int .u64 16777216])]).run Try.prog w = .ok (.agg (mkC my2)) w := by kernel_rfl
theorem rmy3 (w : World) : (Instr.build 42 #[(0, .int .i64 1), (3, .int .i64 63), (4, .int .i64 16777216), (5, .agg #[.int .i64 0, .int .i64 0, .int .i64 0, .int .i64 0, .int .i64 0, .int .i64 1048576, .int .i64 0, .int .i64 0, .int .i64 1000, .int .i64 1000])]).run Try.prog w = .ok (.agg (mkC my3)) w := by kernel_rfl
theorem rout4 (w : World) : (Instr.build 40 #[(0, .int .i64 4), (1, .int .i64 7), (2, .int .u64 16777216)]).run Try.prog w = .ok (.agg #[.int .i64 4, .int .i64 7, .int .u64 16777216]) w := by kernel_rfl
theorem rwin (w : World) : (Instr.build 33 #[(1, .int .i64 1048576)]).run Try.prog w = .ok (.agg #[.int .i64 0, .int .i64 1048576]) w := by kernel_rfl
theorem rreq4 (w : World) : (Instr.build 35 #[(4, .int .i64 1000), (5, .int .i64 1000), (2, .agg #[.int .i64 0, .int .i64 1048576])]).run Try.prog w = .ok (.agg #[.int .i64 0, .int .i64 0, .int .i64 0, .int .i64 0, .int .i64 0, .int .i64 1048576, .int .i64 0, .int .i64 0, .int .i64 1000, .int .i64 1000]) w := by kernel_rfl
theorem rbd0 (w : World) : (Instr.build 42 #[]).run Try.prog w = .ok (.agg (mkC bd0)) w := by kernel_rfl
theorem rbd1 (w : World) : (Instr.build 42 #[(0, .int .i64 6)]).run Try.prog w = .ok (.agg (mkC bd1)) w := by kernel_rfl
theorem rbd2 (w : World) : (Instr.build 42 #[(0, .int .i64 (-1))]).run Try.prog w = .ok (.agg (mkC bd2)) w := by kernel_rfl
theorem rbd3 (w : World) : (Instr.build 42 #[(0, .int .i64 4), (8, .int .u64 4294967297)]).run Try.prog w = .ok (.agg (mkC bd3)) w := by kernel_rfl
theorem rbd4 (w : World) : (Instr.build 42 #[(0, .int .i64 4), (2, .int .i64 8)]).run Try.prog w = .ok (.agg (mkC bd4)) w := by kernel_rfl
theorem rbd5 (w : World) : (Instr.build 42 #[(0, .int .i64 4), (3, .int .i64 1)]).run Try.prog w = .ok (.agg (mkC bd5)) w := by kernel_rfl
theorem rbd6 (w : World) : (Instr.build 42 #[(0, .int .i64 2), (1, .int .i64 16)]).run Try.prog w = .ok (.agg (mkC bd6)) w := by kernel_rfl
theorem rbd7 (w : World) : (Instr.build 42 #[(0, .int .i64 2), (1, .int .i64 (-1))]).run Try.prog w = .ok (.agg (mkC bd7)) w := by kernel_rfl
theorem rbd8 (w : World) : (Instr.build 42 #[(0, .int .i64 2), (2, .int .i64 (-1))]).run Try.prog w = .ok (.agg (mkC bd8)) w := by kernel_rfl
theorem rbd9 (w : World) : (Instr.build 42 #[(0, .int .i64 2), (9, .int .u64 1)]).run Try.prog w = .ok (.agg (mkC bd9)) w := by kernel_rfl
theorem rbd10 (w : World) : (Instr.build 42 #[(0, .int .i64 3), (2, .int .i64 1)]).run Try.prog w = .ok (.agg (mkC bd10)) w := by kernel_rfl
theorem rbd11 (g : Nat) (w : World) : (Instr.build 42 #[(0, .int .i64 3), (7, .slice (some ⟨g, 0, none⟩) 2 2)]).run Try.prog w = .ok (.agg (mkC (bd11 g))) w := by kernel_rfl
theorem rbd12 (g : Nat) (w : World) : (Instr.build 42 #[(0, .int .i64 3), (7, .slice (some ⟨g + 1, 0, none⟩) 1 1)]).run Try.prog w = .ok (.agg (mkC (bd12 g))) w := by kernel_rfl
theorem rbd13 (g : Nat) (w : World) : (Instr.build 42 #[(0, .int .i64 3), (7, .slice (some ⟨g + 2, 0, none⟩) 2 2)]).run Try.prog w = .ok (.agg (mkC (bd13 g))) w := by kernel_rfl
theorem rbd14 (w : World) : (Instr.build 42 #[(0, .int .i64 5)]).run Try.prog w = .ok (.agg (mkC bd14)) w := by kernel_rfl
theorem rbd15 (w : World) : (Instr.build 42 #[(0, .int .i64 5), (10, .agg #[.int .i64 3, .int .i64 0, .int .u64 0])]).run Try.prog w = .ok (.agg (mkC bd15)) w := by kernel_rfl
theorem rbd16 (w : World) : (Instr.build 42 #[(0, .int .i64 5), (10, .agg #[.int .i64 2, .int .i64 (-1), .int .u64 0])]).run Try.prog w = .ok (.agg (mkC bd16)) w := by kernel_rfl
theorem rbd17 (w : World) : (Instr.build 42 #[(0, .int .i64 5), (10, .agg #[.int .i64 2, .int .i64 0, .int .u64 16777217])]).run Try.prog w = .ok (.agg (mkC bd17)) w := by kernel_rfl
theorem rbd18 (w : World) : (Instr.build 42 #[(0, .int .i64 5), (10, .agg #[.int .i64 5, .int .i64 0, .int .u64 0])]).run Try.prog w = .ok (.agg (mkC bd18)) w := by kernel_rfl
theorem rbd19 (w : World) : (Instr.build 42 #[(0, .int .i64 1)]).run Try.prog w = .ok (.agg (mkC bd19)) w := by kernel_rfl
theorem rbd20 (w : World) : (Instr.build 42 #[(0, .int .i64 1), (3, .int .i64 64), (5, .agg #[.int .i64 0, .int .i64 0, .int .i64 0, .int .i64 0, .int .i64 0, .int .i64 0, .int .i64 0, .int .i64 0, .int .i64 1, .int .i64 0])]).run Try.prog w = .ok (.agg (mkC bd20)) w := by kernel_rfl
theorem rbd21 (w : World) : (Instr.build 42 #[(0, .int .i64 1), (4, .int .i64 (-1)), (5, .agg #[.int .i64 0, .int .i64 0, .int .i64 0, .int .i64 0, .int .i64 0, .int .i64 0, .int .i64 0, .int .i64 0, .int .i64 1, .int .i64 0])]).run Try.prog w = .ok (.agg (mkC bd21)) w := by kernel_rfl
theorem rout3 (w : World) : (Instr.build 40 #[(0, .int .i64 3)]).run Try.prog w = .ok (.agg #[.int .i64 3, .int .i64 0, .int .u64 0]) w := by kernel_rfl
theorem rout2 (w : World) : (Instr.build 40 #[(0, .int .i64 2), (1, .int .i64 (-1))]).run Try.prog w = .ok (.agg #[.int .i64 2, .int .i64 (-1), .int .u64 0]) w := by kernel_rfl
theorem routp (w : World) : (Instr.build 40 #[(0, .int .i64 2), (2, .int .u64 16777217)]).run Try.prog w = .ok (.agg #[.int .i64 2, .int .i64 0, .int .u64 16777217]) w := by kernel_rfl
theorem rout5 (w : World) : (Instr.build 40 #[(0, .int .i64 5)]).run Try.prog w = .ok (.agg #[.int .i64 5, .int .i64 0, .int .u64 0]) w := by kernel_rfl
theorem rreq1 (w : World) : (Instr.build 35 #[(4, .int .i64 1)]).run Try.prog w = .ok (.agg #[.int .i64 0, .int .i64 0, .int .i64 0, .int .i64 0, .int .i64 0, .int .i64 0, .int .i64 0, .int .i64 0, .int .i64 1, .int .i64 0]) w := by kernel_rfl
theorem rmk0 (w : World) : (Instr.build 65 #[]).run Try.prog w = .ok (.agg (mkR 0)) w := by kernel_rfl
theorem rmk8 (w : World) : (Instr.build 65 #[(0, .int .i64 8)]).run Try.prog w = .ok (.agg (mkR 8)) w := by kernel_rfl
theorem rmk3 (w : World) : (Instr.build 65 #[(0, .int .i64 3)]).run Try.prog w = .ok (.agg (mkR 3)) w := by kernel_rfl
theorem rmk2 (w : World) : (Instr.build 65 #[(0, .int .i64 2)]).run Try.prog w = .ok (.agg (mkR 2)) w := by kernel_rfl
theorem rsl0 (w : World) : (Instr.buildSlice 38 2 #[(0, .agg (mkR 0)), (1, .agg (mkR 0))]).run Try.prog w = .ok (.slice (some ⟨w.heap.size, 0, none⟩) 2 2) (w.alloc (.cells (mk2 0 0) 65)) := by kernel_rfl
theorem rsl8 (w : World) : (Instr.buildSlice 38 1 #[(0, .agg (mkR 8))]).run Try.prog w = .ok (.slice (some ⟨w.heap.size, 0, none⟩) 1 1) (w.alloc (.cells (mk1 8) 65)) := by kernel_rfl
theorem rsl3 (w : World) : (Instr.buildSlice 38 2 #[(0, .agg (mkR 3)), (1, .agg (mkR 2))]).run Try.prog w = .ok (.slice (some ⟨w.heap.size, 0, none⟩) 2 2) (w.alloc (.cells (mk2 3 2) 65)) := by kernel_rfl
theorem mys_53 : ∀ C ∈ mys.map mkC, C.size = 53 := by
  intro C hC
  obtain ⟨m, _, rfl⟩ := List.mem_map.1 hC
  exact mkC_size m
theorem bds_53 (g : Nat) : ∀ C ∈ (bds g).map mkC, C.size = 53 := by
  intro C hC
  obtain ⟨m, _, rfl⟩ := List.mem_map.1 hC
  exact mkC_size m
theorem rmys (w : World) : (Instr.buildSlice 66 4 #[(0, .agg (mkC my0)), (1, .agg (mkC my1)), (2, .agg (mkC my2)), (3, .agg (mkC my3))]).run Try.prog w = .ok (.slice (some ⟨w.heap.size, 0, none⟩) 4 4) (w.alloc (.cells (rowOf (mys.map mkC)) 42)) :=
  run_rowOf w _ _ 4 _ (mys.map mkC) rfl (by omega) (by omega) mys_53 rfl Try.underlying66 (by kernel_rfl) (by kernel_rfl)
theorem rbds (g : Nat) (w : World) : (Instr.buildSlice 66 22 #[(0, .agg (mkC bd0)), (1, .agg (mkC bd1)), (2, .agg (mkC bd2)), (3, .agg (mkC bd3)), (4, .agg (mkC bd4)), (5, .agg (mkC bd5)), (6, .agg (mkC bd6)), (7, .agg (mkC bd7)), (8, .agg (mkC bd8)), (9, .agg (mkC bd9)), (10, .agg (mkC bd10)), (11, .agg (mkC (bd11 g))), (12, .agg (mkC (bd12 g))), (13, .agg (mkC (bd13 g))), (14, .agg (mkC bd14)), (15, .agg (mkC bd15)), (16, .agg (mkC bd16)), (17, .agg (mkC bd17)), (18, .agg (mkC bd18)), (19, .agg (mkC bd19)), (20, .agg (mkC bd20)), (21, .agg (mkC bd21))]).run Try.prog w = .ok (.slice (some ⟨w.heap.size, 0, none⟩) 22 22) (w.alloc (.cells (rowOf ((bds g).map mkC)) 42)) :=
  run_rowOf w _ _ 22 _ ((bds g).map mkC) rfl (by omega) (by omega) (bds_53 g) rfl Try.underlying66 (by kernel_rfl) (by kernel_rfl)
theorem wpList_bs_v {P : Program} {ops : Array Oper} {rest : List Oper} {o : Oper} {a : Act} {w : World} {Q : Exit → Act → World → Prop} (hgd : o.guard = none) (t : TypeId) (n : Nat) (parts : Array (Nat × Operand)) (ho : o.op = .buildSlice t n parts)
    (vs : Array (Nat × Value)) (hp : (parts.map fun (i, x) => (i, a.eval x)) = vs) (v : Value) (w' : World) (hrun : (Instr.buildSlice t n vs).run P w = .ok v w') (h : wpList P ops Q rest (a.put o.dst v) w') : wpList P ops Q (o :: rest) a w :=
  wpList_plain hgd fun _ hK => by
    unfold Oper.wp execOp
    simp only [ho, hp, Sem.run_bind, hrun, Sem.run_pure, Result.andThen_ok]
    exact hK _ _ h
theorem wpList_appM {ops : Array Oper} {rest : List Oper} {o : Oper} {a : Act} {w : World} {Q : Exit → Act → World → Prop} (hgd : o.guard = none) (x y : Operand) (ho : o.op = .call { callee := .builtin .append, args := #[x, y], argTypes := #[38, 38] })
    (base : Nat) (hbase : base ≤ w.heap.size) (v : Value) (n : Nat) (xs : List Value) (hx : a.eval x = v) (hown : w.ownsRow base 65 33 v n xs) (hn : n ≤ 1000) (g : Nat) (MR : Array Value) (hy : a.eval y = .slice (some ⟨g, 0, none⟩) 1 1)
    (hB : Blk w g MR 65) (hs : MR.size = 33) (h1 : ∀ u ∈ MR.toList, u.oneCell' = true)
    (h : ∀ v' w', w'.ownsRow base 65 33 v' (n + 1) (xs ++ MR.toList) → w.grownBy w' v.ownBlock → wpList Try.prog ops Q rest (a.put o.dst v') w') : wpList Try.prog ops Q (o :: rest) a w :=
  wpList_plain hgd fun _ hK => by
    obtain ⟨v', w', h2, h3, h4⟩ := run_appM base hbase v n xs ho hx hown hn g MR hy hB hs h1
    unfold Oper.wp
    rw [h2]
    exact hK _ _ (h v' w' h3 h4)
end Go.Proofs.Ytcipdimnbleljaa
