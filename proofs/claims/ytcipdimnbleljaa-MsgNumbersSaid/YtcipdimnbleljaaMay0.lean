/-
  Layer 18 (msg): may.
-/
import Derived.Test.YtcipdimnbleljaaMayP
import Derived.Test.YtcipdimnbleljaaTr
import Derived.Deep.CutRange
namespace Go.Proofs.Ytcipdimnbleljaa
open Go.RowKit
open Extern.Stop (cell)

theorem marks_below {w w' : World} {m : MV} (h : MarksAt w m) (hb : Below w.heap.size w w') : MarksAt w' m :=
  ⟨h.nil, h.len, h.big, fun a ha j v hj => (hb.cell (p := a.add j) (World.block_lt_of_cell? w (a.add j) (h.cells a ha j v hj))).trans (h.cells a ha j v hj)⟩
theorem wp_world {P : Program} {c : Code} {Q : Exit → Act → World → Prop} {a : Act} {W : World} (R : World → Prop) (h : R W) (k : ∀ wx, R wx → c.wp P Q a wx) : c.wp P Q a W := k W h
theorem load_part {P : Program} (wx : World) (B : Nat) (D : Array Value) (t : TypeId) (hB : Blk wx B D t) (o n : Nat) (ho : o + n ≤ D.size) (ty : TypeId) (d : TypeDesc)
    (hu : P.underlying ty = some d) (hd : (match d with | .struct _ | .array _ _ => true | _ => false) = true) (hi : (P.info? ty).map (·.size) = some n) :
    (loadVar ty ⟨B, o, none⟩).run P wx = .ok (.agg (D.extract o (o + n))) wx := by
  have h := run_loadVar_at (P := P) wx ⟨B, o, none⟩ ty (D.extract o (o + n)).toList d (fun j v hj => by
    have hlt : j < n := by
      have := (List.getElem?_eq_some_iff.1 hj).1
      simp at this
      omega
    have e : (⟨B, o, none⟩ : Addr).add j = ⟨B, o + j, none⟩ := by unfold Addr.add; split <;> simp_all
    rw [e]
    refine hB.cell ?_
    rw [Array.getElem?_toList, Array.getElem?_extract_of_lt (by omega)] at hj
    rw [← hj]
    exact Array.getElem?_eq_getElem _) hu hd (by rw [hi]; simp; omega)
  rw [Array.toArray_toList] at h
  exact h
theorem ext_row {D X : Array Value} {o n : Nat} (ho : o + n ≤ D.size) (hX : X.size = n) (h : ∀ i, i < n → D[o + i]? = X[i]?) : D.extract o (o + n) = X := by
  apply Array.ext_getElem?
  intro i
  by_cases hi : i < n
  · rw [Array.getElem?_extract_of_lt (by omega), ← h i hi]
    exact (Array.getElem?_eq_getElem _).symm
  · rw [Array.getElem?_eq_none (by simp; omega), Array.getElem?_eq_none (by omega)]

structure Pack (T : TypeId) (B o : Nat) (wx : World) (X Z : Array Value) (q : Bool) : Prop where
  load : (loadVar T ⟨B, o, none⟩).run Try.prog wx = .ok (.agg X) wx
  zero : (Instr.build T #[]).run Try.prog wx = .ok (.agg Z) wx
  guard : ∀ x y, (eqGuard .eql T x y (.agg X) (.agg Z)).run Try.prog wx = .ok () wx
  same : (binOp .eql T (.agg X) (.agg Z)).run Try.prog wx = .ok (.bool q) wx
theorem req_pack (wx : World) (B : Nat) (D : Array Value) (m : MV) (t : TypeId) (hB : Blk wx B D t) (hM : MsgOf D m) : ∃ X Z, Pack 35 B 5 wx X Z (rqZ m.rq) := by
  refine ⟨_, #[.int .i64 0, .int .i64 0, .int .i64 0, .int .i64 0, .int .i64 0, .int .i64 0, .int .i64 0, .int .i64 0, .int .i64 0, .int .i64 0], ⟨load_part wx B D t hB 5 10 (by rw [hM.size]; omega) 35 _ Try.underlying35 rfl (by kernel_rfl), by kernel_rfl, fun x y => run_eqGuard_agg _ _ _ _ _ _ _ (by kernel_rfl), ?_⟩⟩
  rw [ext_row (D := D) (o := 5) (n := 10) (X := #[.int .i64 (m.rq 0), .int .i64 (m.rq 1), .int .i64 (m.rq 2), .int .i64 (m.rq 3), .int .i64 (m.rq 4), .int .i64 (m.rq 5), .int .i64 (m.rq 6), .int .i64 (m.rq 7), .int .i64 (m.rq 8), .int .i64 (m.rq 9)]) (by rw [hM.size]; omega) rfl (fun i hi => by rw [hM.h5 i hi]; match i, hi with | 0, _ => rfl | 1, _ => rfl | 2, _ => rfl | 3, _ => rfl | 4, _ => rfl | 5, _ => rfl | 6, _ => rfl | 7, _ => rfl | 8, _ => rfl | 9, _ => rfl | i + 10, hi => exact absurd hi (by omega))]
  exact eql_request wx m.rq (fun _ => 0)
theorem dig_pack (wx : World) (B : Nat) (D : Array Value) (m : MV) (t : TypeId) (hB : Blk wx B D t) (hM : MsgOf D m) : ∃ X Z, Pack 37 B 15 wx X Z (dgZ m.dg) := by
  refine ⟨_, #[.int .u8 0, .int .u8 0, .int .u8 0, .int .u8 0, .int .u8 0, .int .u8 0, .int .u8 0, .int .u8 0, .int .u8 0, .int .u8 0, .int .u8 0, .int .u8 0, .int .u8 0, .int .u8 0, .int .u8 0, .int .u8 0, .int .u8 0, .int .u8 0, .int .u8 0, .int .u8 0, .int .u8 0, .int .u8 0, .int .u8 0, .int .u8 0, .int .u8 0, .int .u8 0, .int .u8 0, .int .u8 0, .int .u8 0, .int .u8 0, .int .u8 0, .int .u8 0], ⟨load_part wx B D t hB 15 32 (by rw [hM.size]; omega) 37 _ Try.underlying37 rfl (by kernel_rfl), by kernel_rfl, fun x y => run_eqGuard_agg _ _ _ _ _ _ _ (by kernel_rfl), ?_⟩⟩
  rw [ext_row (D := D) (o := 15) (n := 32) (X := (m.dg.map cell).toArray) (by rw [hM.size]; omega) (by simp [hM.l15]) (fun i hi => by
    have : i < m.dg.length := by rw [hM.l15]; exact hi
    rw [hM.h15 i hi]; simp [List.getD_eq_getElem?_getD, this])]
  exact eql_digest wx _ _ m.dg (List.replicate 32 0) (by simp) rfl hM.l15 (by simp)
theorem out_pack (wx : World) (B : Nat) (D : Array Value) (m : MV) (t : TypeId) (hB : Blk wx B D t) (hM : MsgOf D m) : ∃ X Z, Pack 40 B 50 wx X Z (outZ m) := by
  refine ⟨_, #[.int .i64 0, .int .i64 0, .int .u64 0], ⟨load_part wx B D t hB 50 3 (by rw [hM.size]; omega) 40 _ Try.underlying40 rfl (by kernel_rfl), by kernel_rfl, fun x y => run_eqGuard_agg _ _ _ _ _ _ _ (by kernel_rfl), ?_⟩⟩
  rw [ext_row (D := D) (o := 50) (n := 3) (X := #[.int .i64 m.state, .int .i64 m.winner, .int .u64 m.price]) (by rw [hM.size]; omega) rfl (fun i hi => by
    match i, hi with | 0, _ => exact hM.h50 | 1, _ => exact hM.h51 | 2, _ => exact hM.h52 | i + 3, hi => exact absurd hi (by omega))]
  exact eql_outcome wx m.state m.winner m.price 0 0 0
end Go.Proofs.Ytcipdimnbleljaa
