/-
  The document's side of layer 18: Turned.
-/
import Derived.Test.YtcipdimnbleljaaRfH
namespace Go.Proofs.Ytcipdimnbleljaa
open Go.RowKit
open Extern.Stop (cell)

/-- what Turned leaves: some message -/
def TurnPost (w : World) (e : Ending) (w' : World) : Prop :=
  ∃ D m', e = .returned (.agg D) ∧ MsgOf D m' ∧ MarksAt w' m' ∧ MsgRg m' ∧ Below w.heap.size w w'
theorem set_kind {C : Array Value} {m : MV} (hM : MsgOf C m) (n : Int) : MsgOf (C.setIfInBounds 0 (.int .i64 n)) { m with kind := n } :=
  ⟨by rw [Array.size_setIfInBounds]; exact hM.size, (set_eq (by rw [hM.size]; omega)), (by rw [set_ne (by omega)]; exact hM.h1), (by rw [set_ne (by omega)]; exact hM.h2), (by rw [set_ne (by omega)]; exact hM.h3), (by rw [set_ne (by omega)]; exact hM.h4), (fun i hi => by rw [set_ne (by omega)]; exact hM.h5 i hi), (fun i hi => by rw [set_ne (by omega)]; exact hM.h15 i hi), hM.l15, (by rw [set_ne (by omega)]; exact hM.h47), (by rw [set_ne (by omega)]; exact hM.h48), (by rw [set_ne (by omega)]; exact hM.h49), (by rw [set_ne (by omega)]; exact hM.h50), (by rw [set_ne (by omega)]; exact hM.h51), (by rw [set_ne (by omega)]; exact hM.h52)⟩
theorem set_round {C : Array Value} {m : MV} (hM : MsgOf C m) (n : Int) : MsgOf (C.setIfInBounds 1 (.int .i64 n)) { m with round := n } :=
  ⟨by rw [Array.size_setIfInBounds]; exact hM.size, (by rw [set_ne (by omega)]; exact hM.h0), (set_eq (by rw [hM.size]; omega)), (by rw [set_ne (by omega)]; exact hM.h2), (by rw [set_ne (by omega)]; exact hM.h3), (by rw [set_ne (by omega)]; exact hM.h4), (fun i hi => by rw [set_ne (by omega)]; exact hM.h5 i hi), (fun i hi => by rw [set_ne (by omega)]; exact hM.h15 i hi), hM.l15, (by rw [set_ne (by omega)]; exact hM.h47), (by rw [set_ne (by omega)]; exact hM.h48), (by rw [set_ne (by omega)]; exact hM.h49), (by rw [set_ne (by omega)]; exact hM.h50), (by rw [set_ne (by omega)]; exact hM.h51), (by rw [set_ne (by omega)]; exact hM.h52)⟩
theorem set_carrier {C : Array Value} {m : MV} (hM : MsgOf C m) (n : Int) : MsgOf (C.setIfInBounds 2 (.int .i64 n)) { m with carrier := n } :=
  ⟨by rw [Array.size_setIfInBounds]; exact hM.size, (by rw [set_ne (by omega)]; exact hM.h0), (by rw [set_ne (by omega)]; exact hM.h1), (set_eq (by rw [hM.size]; omega)), (by rw [set_ne (by omega)]; exact hM.h3), (by rw [set_ne (by omega)]; exact hM.h4), (fun i hi => by rw [set_ne (by omega)]; exact hM.h5 i hi), (fun i hi => by rw [set_ne (by omega)]; exact hM.h15 i hi), hM.l15, (by rw [set_ne (by omega)]; exact hM.h47), (by rw [set_ne (by omega)]; exact hM.h48), (by rw [set_ne (by omega)]; exact hM.h49), (by rw [set_ne (by omega)]; exact hM.h50), (by rw [set_ne (by omega)]; exact hM.h51), (by rw [set_ne (by omega)]; exact hM.h52)⟩
theorem set_req {C : Array Value} {m : MV} (hM : MsgOf C m) (n : Int) : MsgOf (C.setIfInBounds 3 (.int .i64 n)) { m with req := n } :=
  ⟨by rw [Array.size_setIfInBounds]; exact hM.size, (by rw [set_ne (by omega)]; exact hM.h0), (by rw [set_ne (by omega)]; exact hM.h1), (by rw [set_ne (by omega)]; exact hM.h2), (set_eq (by rw [hM.size]; omega)), (by rw [set_ne (by omega)]; exact hM.h4), (fun i hi => by rw [set_ne (by omega)]; exact hM.h5 i hi), (fun i hi => by rw [set_ne (by omega)]; exact hM.h15 i hi), hM.l15, (by rw [set_ne (by omega)]; exact hM.h47), (by rw [set_ne (by omega)]; exact hM.h48), (by rw [set_ne (by omega)]; exact hM.h49), (by rw [set_ne (by omega)]; exact hM.h50), (by rw [set_ne (by omega)]; exact hM.h51), (by rw [set_ne (by omega)]; exact hM.h52)⟩
theorem set_reserve {C : Array Value} {m : MV} (hM : MsgOf C m) (n : Int) : MsgOf (C.setIfInBounds 4 (.int .i64 n)) { m with reserve := n } :=
  ⟨by rw [Array.size_setIfInBounds]; exact hM.size, (by rw [set_ne (by omega)]; exact hM.h0), (by rw [set_ne (by omega)]; exact hM.h1), (by rw [set_ne (by omega)]; exact hM.h2), (by rw [set_ne (by omega)]; exact hM.h3), (set_eq (by rw [hM.size]; omega)), (fun i hi => by rw [set_ne (by omega)]; exact hM.h5 i hi), (fun i hi => by rw [set_ne (by omega)]; exact hM.h15 i hi), hM.l15, (by rw [set_ne (by omega)]; exact hM.h47), (by rw [set_ne (by omega)]; exact hM.h48), (by rw [set_ne (by omega)]; exact hM.h49), (by rw [set_ne (by omega)]; exact hM.h50), (by rw [set_ne (by omega)]; exact hM.h51), (by rw [set_ne (by omega)]; exact hM.h52)⟩
theorem set_bid {C : Array Value} {m : MV} (hM : MsgOf C m) (n : Int) : MsgOf (C.setIfInBounds 48 (.int .u64 n)) { m with bid := n } :=
  ⟨by rw [Array.size_setIfInBounds]; exact hM.size, (by rw [set_ne (by omega)]; exact hM.h0), (by rw [set_ne (by omega)]; exact hM.h1), (by rw [set_ne (by omega)]; exact hM.h2), (by rw [set_ne (by omega)]; exact hM.h3), (by rw [set_ne (by omega)]; exact hM.h4), (fun i hi => by rw [set_ne (by omega)]; exact hM.h5 i hi), (fun i hi => by rw [set_ne (by omega)]; exact hM.h15 i hi), hM.l15, (by rw [set_ne (by omega)]; exact hM.h47), (set_eq (by rw [hM.size]; omega)), (by rw [set_ne (by omega)]; exact hM.h49), (by rw [set_ne (by omega)]; exact hM.h50), (by rw [set_ne (by omega)]; exact hM.h51), (by rw [set_ne (by omega)]; exact hM.h52)⟩
theorem set_nonce {C : Array Value} {m : MV} (hM : MsgOf C m) (n : Int) : MsgOf (C.setIfInBounds 49 (.int .u64 n)) { m with nonce := n } :=
  ⟨by rw [Array.size_setIfInBounds]; exact hM.size, (by rw [set_ne (by omega)]; exact hM.h0), (by rw [set_ne (by omega)]; exact hM.h1), (by rw [set_ne (by omega)]; exact hM.h2), (by rw [set_ne (by omega)]; exact hM.h3), (by rw [set_ne (by omega)]; exact hM.h4), (fun i hi => by rw [set_ne (by omega)]; exact hM.h5 i hi), (fun i hi => by rw [set_ne (by omega)]; exact hM.h15 i hi), hM.l15, (by rw [set_ne (by omega)]; exact hM.h47), (by rw [set_ne (by omega)]; exact hM.h48), (set_eq (by rw [hM.size]; omega)), (by rw [set_ne (by omega)]; exact hM.h50), (by rw [set_ne (by omega)]; exact hM.h51), (by rw [set_ne (by omega)]; exact hM.h52)⟩
theorem set_state {C : Array Value} {m : MV} (hM : MsgOf C m) (n : Int) : MsgOf (C.setIfInBounds 50 (.int .i64 n)) { m with state := n } :=
  ⟨by rw [Array.size_setIfInBounds]; exact hM.size, (by rw [set_ne (by omega)]; exact hM.h0), (by rw [set_ne (by omega)]; exact hM.h1), (by rw [set_ne (by omega)]; exact hM.h2), (by rw [set_ne (by omega)]; exact hM.h3), (by rw [set_ne (by omega)]; exact hM.h4), (fun i hi => by rw [set_ne (by omega)]; exact hM.h5 i hi), (fun i hi => by rw [set_ne (by omega)]; exact hM.h15 i hi), hM.l15, (by rw [set_ne (by omega)]; exact hM.h47), (by rw [set_ne (by omega)]; exact hM.h48), (by rw [set_ne (by omega)]; exact hM.h49), (set_eq (by rw [hM.size]; omega)), (by rw [set_ne (by omega)]; exact hM.h51), (by rw [set_ne (by omega)]; exact hM.h52)⟩
theorem set_winner {C : Array Value} {m : MV} (hM : MsgOf C m) (n : Int) : MsgOf (C.setIfInBounds 51 (.int .i64 n)) { m with winner := n } :=
  ⟨by rw [Array.size_setIfInBounds]; exact hM.size, (by rw [set_ne (by omega)]; exact hM.h0), (by rw [set_ne (by omega)]; exact hM.h1), (by rw [set_ne (by omega)]; exact hM.h2), (by rw [set_ne (by omega)]; exact hM.h3), (by rw [set_ne (by omega)]; exact hM.h4), (fun i hi => by rw [set_ne (by omega)]; exact hM.h5 i hi), (fun i hi => by rw [set_ne (by omega)]; exact hM.h15 i hi), hM.l15, (by rw [set_ne (by omega)]; exact hM.h47), (by rw [set_ne (by omega)]; exact hM.h48), (by rw [set_ne (by omega)]; exact hM.h49), (by rw [set_ne (by omega)]; exact hM.h50), (set_eq (by rw [hM.size]; omega)), (by rw [set_ne (by omega)]; exact hM.h52)⟩
theorem set_price {C : Array Value} {m : MV} (hM : MsgOf C m) (n : Int) : MsgOf (C.setIfInBounds 52 (.int .u64 n)) { m with price := n } :=
  ⟨by rw [Array.size_setIfInBounds]; exact hM.size, (by rw [set_ne (by omega)]; exact hM.h0), (by rw [set_ne (by omega)]; exact hM.h1), (by rw [set_ne (by omega)]; exact hM.h2), (by rw [set_ne (by omega)]; exact hM.h3), (by rw [set_ne (by omega)]; exact hM.h4), (fun i hi => by rw [set_ne (by omega)]; exact hM.h5 i hi), (fun i hi => by rw [set_ne (by omega)]; exact hM.h15 i hi), hM.l15, (by rw [set_ne (by omega)]; exact hM.h47), (by rw [set_ne (by omega)]; exact hM.h48), (by rw [set_ne (by omega)]; exact hM.h49), (by rw [set_ne (by omega)]; exact hM.h50), (by rw [set_ne (by omega)]; exact hM.h51), (set_eq (by rw [hM.size]; omega))⟩
theorem set_rq {C : Array Value} {m : MV} (hM : MsgOf C m) (k : Nat) (hk : k < 10) (n : Int) : MsgOf (C.setIfInBounds (5 + k) (.int .i64 n)) { m with rq := fun j => if j = k then n else m.rq j } :=
  ⟨by rw [Array.size_setIfInBounds]; exact hM.size, (by rw [set_ne (by omega)]; exact hM.h0), (by rw [set_ne (by omega)]; exact hM.h1), (by rw [set_ne (by omega)]; exact hM.h2), (by rw [set_ne (by omega)]; exact hM.h3), (by rw [set_ne (by omega)]; exact hM.h4), (fun i hi => by
    by_cases h : i = k
    · subst h; rw [set_eq (by rw [hM.size]; omega)]; simp
    · rw [set_ne (by omega), hM.h5 i hi]; simp [h]), (fun i hi => by rw [set_ne (by omega)]; exact hM.h15 i hi), hM.l15, (by rw [set_ne (by omega)]; exact hM.h47), (by rw [set_ne (by omega)]; exact hM.h48), (by rw [set_ne (by omega)]; exact hM.h49), (by rw [set_ne (by omega)]; exact hM.h50), (by rw [set_ne (by omega)]; exact hM.h51), (by rw [set_ne (by omega)]; exact hM.h52)⟩
theorem set_dg {C : Array Value} {m : MV} (hM : MsgOf C m) (b : UInt8) : MsgOf (C.setIfInBounds 15 (cell b)) { m with dg := b :: m.dg.tail } :=
  ⟨by rw [Array.size_setIfInBounds]; exact hM.size, (by rw [set_ne (by omega)]; exact hM.h0), (by rw [set_ne (by omega)]; exact hM.h1), (by rw [set_ne (by omega)]; exact hM.h2), (by rw [set_ne (by omega)]; exact hM.h3), (by rw [set_ne (by omega)]; exact hM.h4), (fun i hi => by rw [set_ne (by omega)]; exact hM.h5 i hi), (fun i hi => by
    cases i with
    | zero => rw [set_eq (by rw [hM.size]; omega)]; rfl
    | succ i =>
      rw [set_ne (by omega), hM.h15 (i + 1) hi]
      have := hM.l15
      congr 2
      simp only [List.getD_eq_getElem?_getD, List.getElem?_cons_succ, List.getElem?_tail]), (by have := hM.l15; simp; omega), (by rw [set_ne (by omega)]; exact hM.h47), (by rw [set_ne (by omega)]; exact hM.h48), (by rw [set_ne (by omega)]; exact hM.h49), (by rw [set_ne (by omega)]; exact hM.h50), (by rw [set_ne (by omega)]; exact hM.h51), (by rw [set_ne (by omega)]; exact hM.h52)⟩
theorem u8_cell (n : Int) : ∃ b : UInt8, (Value.int .u8 (IntKind.u8.wrap n)) = cell b := by
  have h0 : 0 ≤ IntKind.u8.wrap n ∧ IntKind.u8.wrap n < 256 := by
    show 0 ≤ n % 256 ∧ n % 256 < 256
    omega
  refine ⟨UInt8.ofNat (IntKind.u8.wrap n).toNat, ?_⟩
  unfold cell
  congr 1
  rw [UInt8.toNat_ofNat_of_lt' (by show _ < 256; omega)]
  exact (Int.toNat_of_nonneg h0.1).symm
theorem u64_rg (n : Int) : U64 (IntKind.u64.wrap n) := by
  show 0 ≤ n % 18446744073709551616 ∧ n % 18446744073709551616 < 18446744073709551616
  omega

set_option maxHeartbeats 2000000 in
set_option maxRecDepth 100000 in
theorem turned0 (C : Array Value) (m : MV) (w : World) (u n : Int) (hM : MsgOf C m) (hA : MarksAt w m) (hR : MsgRg m) (hu : 0 ≤ u ∧ u < 256) (hn : I64 n) (ht : u % 16 = 0) :
    Calls Try.prog 12 #[.agg C, .int .u8 u, .int .i64 n] w (TurnPost w) := by
  have hC := hM.size
  have hrem : u.tmod 16 = 0 := by rw [Int.tmod_eq_emod_of_nonneg hu.1]; exact ht
  clear ht
  go_enter Try.func12, Try.ntmps12
  go_upto_region 1 with fail
  refine wp_world' (fun wx => Blk wx w.heap.size C 42 ∧ Blk wx (w.heap.size + 1) zero53 42 ∧ Below w.heap.size w wx) ⟨(Blk.new w C _).alloc _, Blk.new' w _ _ _, ((Below.refl _ _).alloc (Nat.le_refl _) _).alloc (by simp) _⟩ ?_
  rintro w0 ⟨hB, hZ, hb⟩
  have c0 := hB.cell (Array.getElem?_eq_getElem (i := 0) (by omega))
  have f0 := hB.froz 0
  go_upto_region 33 with fail
  have hof := set_kind hM n
  refine wp_world' (fun wx => Blk wx w.heap.size (C.setIfInBounds 0 (.int .i64 n)) 42 ∧ Blk wx (w.heap.size + 1) zero53 42 ∧ Below w.heap.size w wx) ⟨hB.set 0 _, hZ.other (by show w.heap.size + 1 ≠ w.heap.size; omega) _, hb.setCell (Nat.le_refl _) _⟩ ?_
  rintro w1 ⟨hB1, hZ1, hb1⟩
  clear c0 f0 hB hZ hb
  have HZ := Lib.hid hZ1
  have hone := Lib.hid (msg_one hof)
  have hsz := Lib.hid (msg_size _ hof.size)
  have hzs := Lib.hid (show zero53.size = (C.setIfInBounds 0 (.int .i64 n)).size from hof.size.symm)
  have hld := Lib.hid (run_load_row' (P := Try.prog) w1 w.heap.size 42 _ 42 _ hB1 Try.underlying42 rfl (msg_size _ hof.size))
  have Hof := Lib.hid hof
  clear hof hB1 hZ1
  generalize C.setIfInBounds 0 (.int .i64 n) = D at *
  go_wp2_with (first | (refine wpList_load_v rfl 42 _ rfl ⟨w.heap.size, 0, none⟩ rfl _ hld.out ?_) | (refine wpList_store_row2 rfl 42 _ _ rfl rfl (w.heap.size + 1) rfl zero53 D 42 HZ.out rfl (by exact hzs.out) hone.out hsz.out ?_; intro wz hBz hmz))
  (try simp only [Exit.inBlock, Exit.then])
  have hlow := hb1.trans (hmz.below hb1.size (fun _ h => by rw [h]; omega))
  have hA2 := marks_below hA hlow
  exact bodyPost_ret (results_cell_row rfl _ _ (w.heap.size + 1) _ _ _ _ rfl hBz Try.underlying42 rfl hsz.out) rfl ⟨D, _, rfl, Hof.out, ⟨hA2.nil, hA2.len, hA2.big, hA2.cells⟩, ⟨hn, hR.round, hR.carrier, hR.req, hR.reserve, hR.rq, hR.ms, hR.bid, hR.nonce, hR.state, hR.winner, hR.price⟩, hlow⟩

set_option maxHeartbeats 2000000 in
set_option maxRecDepth 100000 in
theorem turned1 (C : Array Value) (m : MV) (w : World) (u n : Int) (hM : MsgOf C m) (hA : MarksAt w m) (hR : MsgRg m) (hu : 0 ≤ u ∧ u < 256) (hn : I64 n) (ht : u % 16 = 1) :
    Calls Try.prog 12 #[.agg C, .int .u8 u, .int .i64 n] w (TurnPost w) := by
  have hC := hM.size
  have hrem : u.tmod 16 = 1 := by rw [Int.tmod_eq_emod_of_nonneg hu.1]; exact ht
  clear ht
  go_enter Try.func12, Try.ntmps12
  go_upto_region 1 with fail
  refine wp_world' (fun wx => Blk wx w.heap.size C 42 ∧ Blk wx (w.heap.size + 1) zero53 42 ∧ Below w.heap.size w wx) ⟨(Blk.new w C _).alloc _, Blk.new' w _ _ _, ((Below.refl _ _).alloc (Nat.le_refl _) _).alloc (by simp) _⟩ ?_
  rintro w0 ⟨hB, hZ, hb⟩
  have c0 := hB.cell (Array.getElem?_eq_getElem (i := 1) (by omega))
  have f0 := hB.froz 1
  go_upto_region 33 with fail
  have hof := set_round hM n
  refine wp_world' (fun wx => Blk wx w.heap.size (C.setIfInBounds 1 (.int .i64 n)) 42 ∧ Blk wx (w.heap.size + 1) zero53 42 ∧ Below w.heap.size w wx) ⟨hB.set 1 _, hZ.other (by show w.heap.size + 1 ≠ w.heap.size; omega) _, hb.setCell (Nat.le_refl _) _⟩ ?_
  rintro w1 ⟨hB1, hZ1, hb1⟩
  clear c0 f0 hB hZ hb
  have HZ := Lib.hid hZ1
  have hone := Lib.hid (msg_one hof)
  have hsz := Lib.hid (msg_size _ hof.size)
  have hzs := Lib.hid (show zero53.size = (C.setIfInBounds 1 (.int .i64 n)).size from hof.size.symm)
  have hld := Lib.hid (run_load_row' (P := Try.prog) w1 w.heap.size 42 _ 42 _ hB1 Try.underlying42 rfl (msg_size _ hof.size))
  have Hof := Lib.hid hof
  clear hof hB1 hZ1
  generalize C.setIfInBounds 1 (.int .i64 n) = D at *
  go_wp2_with (first | (refine wpList_load_v rfl 42 _ rfl ⟨w.heap.size, 0, none⟩ rfl _ hld.out ?_) | (refine wpList_store_row2 rfl 42 _ _ rfl rfl (w.heap.size + 1) rfl zero53 D 42 HZ.out rfl (by exact hzs.out) hone.out hsz.out ?_; intro wz hBz hmz))
  (try simp only [Exit.inBlock, Exit.then])
  have hlow := hb1.trans (hmz.below hb1.size (fun _ h => by rw [h]; omega))
  have hA2 := marks_below hA hlow
  exact bodyPost_ret (results_cell_row rfl _ _ (w.heap.size + 1) _ _ _ _ rfl hBz Try.underlying42 rfl hsz.out) rfl ⟨D, _, rfl, Hof.out, ⟨hA2.nil, hA2.len, hA2.big, hA2.cells⟩, ⟨hR.kind, hn, hR.carrier, hR.req, hR.reserve, hR.rq, hR.ms, hR.bid, hR.nonce, hR.state, hR.winner, hR.price⟩, hlow⟩

set_option maxHeartbeats 2000000 in
set_option maxRecDepth 100000 in
theorem turned2 (C : Array Value) (m : MV) (w : World) (u n : Int) (hM : MsgOf C m) (hA : MarksAt w m) (hR : MsgRg m) (hu : 0 ≤ u ∧ u < 256) (hn : I64 n) (ht : u % 16 = 2) :
    Calls Try.prog 12 #[.agg C, .int .u8 u, .int .i64 n] w (TurnPost w) := by
  have hC := hM.size
  have hrem : u.tmod 16 = 2 := by rw [Int.tmod_eq_emod_of_nonneg hu.1]; exact ht
  clear ht
  go_enter Try.func12, Try.ntmps12
  go_upto_region 1 with fail
  refine wp_world' (fun wx => Blk wx w.heap.size C 42 ∧ Blk wx (w.heap.size + 1) zero53 42 ∧ Below w.heap.size w wx) ⟨(Blk.new w C _).alloc _, Blk.new' w _ _ _, ((Below.refl _ _).alloc (Nat.le_refl _) _).alloc (by simp) _⟩ ?_
  rintro w0 ⟨hB, hZ, hb⟩
  have c0 := hB.cell (Array.getElem?_eq_getElem (i := 2) (by omega))
  have f0 := hB.froz 2
  go_upto_region 33 with fail
  have hof := set_carrier hM n
  refine wp_world' (fun wx => Blk wx w.heap.size (C.setIfInBounds 2 (.int .i64 n)) 42 ∧ Blk wx (w.heap.size + 1) zero53 42 ∧ Below w.heap.size w wx) ⟨hB.set 2 _, hZ.other (by show w.heap.size + 1 ≠ w.heap.size; omega) _, hb.setCell (Nat.le_refl _) _⟩ ?_
  rintro w1 ⟨hB1, hZ1, hb1⟩
  clear c0 f0 hB hZ hb
  have HZ := Lib.hid hZ1
  have hone := Lib.hid (msg_one hof)
  have hsz := Lib.hid (msg_size _ hof.size)
  have hzs := Lib.hid (show zero53.size = (C.setIfInBounds 2 (.int .i64 n)).size from hof.size.symm)
  have hld := Lib.hid (run_load_row' (P := Try.prog) w1 w.heap.size 42 _ 42 _ hB1 Try.underlying42 rfl (msg_size _ hof.size))
  have Hof := Lib.hid hof
  clear hof hB1 hZ1
  generalize C.setIfInBounds 2 (.int .i64 n) = D at *
  go_wp2_with (first | (refine wpList_load_v rfl 42 _ rfl ⟨w.heap.size, 0, none⟩ rfl _ hld.out ?_) | (refine wpList_store_row2 rfl 42 _ _ rfl rfl (w.heap.size + 1) rfl zero53 D 42 HZ.out rfl (by exact hzs.out) hone.out hsz.out ?_; intro wz hBz hmz))
  (try simp only [Exit.inBlock, Exit.then])
  have hlow := hb1.trans (hmz.below hb1.size (fun _ h => by rw [h]; omega))
  have hA2 := marks_below hA hlow
  exact bodyPost_ret (results_cell_row rfl _ _ (w.heap.size + 1) _ _ _ _ rfl hBz Try.underlying42 rfl hsz.out) rfl ⟨D, _, rfl, Hof.out, ⟨hA2.nil, hA2.len, hA2.big, hA2.cells⟩, ⟨hR.kind, hR.round, hn, hR.req, hR.reserve, hR.rq, hR.ms, hR.bid, hR.nonce, hR.state, hR.winner, hR.price⟩, hlow⟩

set_option maxHeartbeats 2000000 in
set_option maxRecDepth 100000 in
theorem turned3 (C : Array Value) (m : MV) (w : World) (u n : Int) (hM : MsgOf C m) (hA : MarksAt w m) (hR : MsgRg m) (hu : 0 ≤ u ∧ u < 256) (hn : I64 n) (ht : u % 16 = 3) :
    Calls Try.prog 12 #[.agg C, .int .u8 u, .int .i64 n] w (TurnPost w) := by
  have hC := hM.size
  have hrem : u.tmod 16 = 3 := by rw [Int.tmod_eq_emod_of_nonneg hu.1]; exact ht
  clear ht
  go_enter Try.func12, Try.ntmps12
  go_upto_region 1 with fail
  refine wp_world' (fun wx => Blk wx w.heap.size C 42 ∧ Blk wx (w.heap.size + 1) zero53 42 ∧ Below w.heap.size w wx) ⟨(Blk.new w C _).alloc _, Blk.new' w _ _ _, ((Below.refl _ _).alloc (Nat.le_refl _) _).alloc (by simp) _⟩ ?_
  rintro w0 ⟨hB, hZ, hb⟩
  have c0 := hB.cell (Array.getElem?_eq_getElem (i := 3) (by omega))
  have f0 := hB.froz 3
  go_upto_region 33 with fail
  have hof := set_req hM n
  refine wp_world' (fun wx => Blk wx w.heap.size (C.setIfInBounds 3 (.int .i64 n)) 42 ∧ Blk wx (w.heap.size + 1) zero53 42 ∧ Below w.heap.size w wx) ⟨hB.set 3 _, hZ.other (by show w.heap.size + 1 ≠ w.heap.size; omega) _, hb.setCell (Nat.le_refl _) _⟩ ?_
  rintro w1 ⟨hB1, hZ1, hb1⟩
  clear c0 f0 hB hZ hb
  have HZ := Lib.hid hZ1
  have hone := Lib.hid (msg_one hof)
  have hsz := Lib.hid (msg_size _ hof.size)
  have hzs := Lib.hid (show zero53.size = (C.setIfInBounds 3 (.int .i64 n)).size from hof.size.symm)
  have hld := Lib.hid (run_load_row' (P := Try.prog) w1 w.heap.size 42 _ 42 _ hB1 Try.underlying42 rfl (msg_size _ hof.size))
  have Hof := Lib.hid hof
  clear hof hB1 hZ1
  generalize C.setIfInBounds 3 (.int .i64 n) = D at *
  go_wp2_with (first | (refine wpList_load_v rfl 42 _ rfl ⟨w.heap.size, 0, none⟩ rfl _ hld.out ?_) | (refine wpList_store_row2 rfl 42 _ _ rfl rfl (w.heap.size + 1) rfl zero53 D 42 HZ.out rfl (by exact hzs.out) hone.out hsz.out ?_; intro wz hBz hmz))
  (try simp only [Exit.inBlock, Exit.then])
  have hlow := hb1.trans (hmz.below hb1.size (fun _ h => by rw [h]; omega))
  have hA2 := marks_below hA hlow
  exact bodyPost_ret (results_cell_row rfl _ _ (w.heap.size + 1) _ _ _ _ rfl hBz Try.underlying42 rfl hsz.out) rfl ⟨D, _, rfl, Hof.out, ⟨hA2.nil, hA2.len, hA2.big, hA2.cells⟩, ⟨hR.kind, hR.round, hR.carrier, hn, hR.reserve, hR.rq, hR.ms, hR.bid, hR.nonce, hR.state, hR.winner, hR.price⟩, hlow⟩

set_option maxHeartbeats 2000000 in
set_option maxRecDepth 100000 in
theorem turned4 (C : Array Value) (m : MV) (w : World) (u n : Int) (hM : MsgOf C m) (hA : MarksAt w m) (hR : MsgRg m) (hu : 0 ≤ u ∧ u < 256) (hn : I64 n) (ht : u % 16 = 4) :
    Calls Try.prog 12 #[.agg C, .int .u8 u, .int .i64 n] w (TurnPost w) := by
  have hC := hM.size
  have hrem : u.tmod 16 = 4 := by rw [Int.tmod_eq_emod_of_nonneg hu.1]; exact ht
  clear ht
  go_enter Try.func12, Try.ntmps12
  go_upto_region 1 with fail
  refine wp_world' (fun wx => Blk wx w.heap.size C 42 ∧ Blk wx (w.heap.size + 1) zero53 42 ∧ Below w.heap.size w wx) ⟨(Blk.new w C _).alloc _, Blk.new' w _ _ _, ((Below.refl _ _).alloc (Nat.le_refl _) _).alloc (by simp) _⟩ ?_
  rintro w0 ⟨hB, hZ, hb⟩
  have c0 := hB.cell (Array.getElem?_eq_getElem (i := 4) (by omega))
  have f0 := hB.froz 4
  go_upto_region 33 with fail
  have hof := set_reserve hM n
  refine wp_world' (fun wx => Blk wx w.heap.size (C.setIfInBounds 4 (.int .i64 n)) 42 ∧ Blk wx (w.heap.size + 1) zero53 42 ∧ Below w.heap.size w wx) ⟨hB.set 4 _, hZ.other (by show w.heap.size + 1 ≠ w.heap.size; omega) _, hb.setCell (Nat.le_refl _) _⟩ ?_
  rintro w1 ⟨hB1, hZ1, hb1⟩
  clear c0 f0 hB hZ hb
  have HZ := Lib.hid hZ1
  have hone := Lib.hid (msg_one hof)
  have hsz := Lib.hid (msg_size _ hof.size)
  have hzs := Lib.hid (show zero53.size = (C.setIfInBounds 4 (.int .i64 n)).size from hof.size.symm)
  have hld := Lib.hid (run_load_row' (P := Try.prog) w1 w.heap.size 42 _ 42 _ hB1 Try.underlying42 rfl (msg_size _ hof.size))
  have Hof := Lib.hid hof
  clear hof hB1 hZ1
  generalize C.setIfInBounds 4 (.int .i64 n) = D at *
  go_wp2_with (first | (refine wpList_load_v rfl 42 _ rfl ⟨w.heap.size, 0, none⟩ rfl _ hld.out ?_) | (refine wpList_store_row2 rfl 42 _ _ rfl rfl (w.heap.size + 1) rfl zero53 D 42 HZ.out rfl (by exact hzs.out) hone.out hsz.out ?_; intro wz hBz hmz))
  (try simp only [Exit.inBlock, Exit.then])
  have hlow := hb1.trans (hmz.below hb1.size (fun _ h => by rw [h]; omega))
  have hA2 := marks_below hA hlow
  exact bodyPost_ret (results_cell_row rfl _ _ (w.heap.size + 1) _ _ _ _ rfl hBz Try.underlying42 rfl hsz.out) rfl ⟨D, _, rfl, Hof.out, ⟨hA2.nil, hA2.len, hA2.big, hA2.cells⟩, ⟨hR.kind, hR.round, hR.carrier, hR.req, hn, hR.rq, hR.ms, hR.bid, hR.nonce, hR.state, hR.winner, hR.price⟩, hlow⟩

set_option maxHeartbeats 2000000 in
set_option maxRecDepth 100000 in
theorem turned5 (C : Array Value) (m : MV) (w : World) (u n : Int) (hM : MsgOf C m) (hA : MarksAt w m) (hR : MsgRg m) (hu : 0 ≤ u ∧ u < 256) (hn : I64 n) (ht : u % 16 = 5) :
    Calls Try.prog 12 #[.agg C, .int .u8 u, .int .i64 n] w (TurnPost w) := by
  have hC := hM.size
  have hrem : u.tmod 16 = 5 := by rw [Int.tmod_eq_emod_of_nonneg hu.1]; exact ht
  clear ht
  go_enter Try.func12, Try.ntmps12
  go_upto_region 1 with fail
  refine wp_world' (fun wx => Blk wx w.heap.size C 42 ∧ Blk wx (w.heap.size + 1) zero53 42 ∧ Below w.heap.size w wx) ⟨(Blk.new w C _).alloc _, Blk.new' w _ _ _, ((Below.refl _ _).alloc (Nat.le_refl _) _).alloc (by simp) _⟩ ?_
  rintro w0 ⟨hB, hZ, hb⟩
  have c0 := hB.cell (Array.getElem?_eq_getElem (i := 5) (by omega))
  have f0 := hB.froz 5
  go_upto_region 33 with fail
  have hof := set_rq hM 0 (by omega) n
  refine wp_world' (fun wx => Blk wx w.heap.size (C.setIfInBounds 5 (.int .i64 n)) 42 ∧ Blk wx (w.heap.size + 1) zero53 42 ∧ Below w.heap.size w wx) ⟨hB.set 5 _, hZ.other (by show w.heap.size + 1 ≠ w.heap.size; omega) _, hb.setCell (Nat.le_refl _) _⟩ ?_
  rintro w1 ⟨hB1, hZ1, hb1⟩
  clear c0 f0 hB hZ hb
  have HZ := Lib.hid hZ1
  have hone := Lib.hid (msg_one hof)
  have hsz := Lib.hid (msg_size _ hof.size)
  have hzs := Lib.hid (show zero53.size = (C.setIfInBounds 5 (.int .i64 n)).size from hof.size.symm)
  have hld := Lib.hid (run_load_row' (P := Try.prog) w1 w.heap.size 42 _ 42 _ hB1 Try.underlying42 rfl (msg_size _ hof.size))
  have Hof := Lib.hid hof
  clear hof hB1 hZ1
  generalize C.setIfInBounds 5 (.int .i64 n) = D at *
  go_wp2_with (first | (refine wpList_load_v rfl 42 _ rfl ⟨w.heap.size, 0, none⟩ rfl _ hld.out ?_) | (refine wpList_store_row2 rfl 42 _ _ rfl rfl (w.heap.size + 1) rfl zero53 D 42 HZ.out rfl (by exact hzs.out) hone.out hsz.out ?_; intro wz hBz hmz))
  (try simp only [Exit.inBlock, Exit.then])
  have hlow := hb1.trans (hmz.below hb1.size (fun _ h => by rw [h]; omega))
  have hA2 := marks_below hA hlow
  exact bodyPost_ret (results_cell_row rfl _ _ (w.heap.size + 1) _ _ _ _ rfl hBz Try.underlying42 rfl hsz.out) rfl ⟨D, _, rfl, Hof.out, ⟨hA2.nil, hA2.len, hA2.big, hA2.cells⟩, ⟨hR.kind, hR.round, hR.carrier, hR.req, hR.reserve, (fun j hj => by show I64 (if j = 0 then n else m.rq j); split; exact hn; exact hR.rq j hj), hR.ms, hR.bid, hR.nonce, hR.state, hR.winner, hR.price⟩, hlow⟩

set_option maxHeartbeats 2000000 in
set_option maxRecDepth 100000 in
theorem turned6 (C : Array Value) (m : MV) (w : World) (u n : Int) (hM : MsgOf C m) (hA : MarksAt w m) (hR : MsgRg m) (hu : 0 ≤ u ∧ u < 256) (hn : I64 n) (ht : u % 16 = 6) :
    Calls Try.prog 12 #[.agg C, .int .u8 u, .int .i64 n] w (TurnPost w) := by
  have hC := hM.size
  have hrem : u.tmod 16 = 6 := by rw [Int.tmod_eq_emod_of_nonneg hu.1]; exact ht
  clear ht
  go_enter Try.func12, Try.ntmps12
  go_upto_region 1 with fail
  refine wp_world' (fun wx => Blk wx w.heap.size C 42 ∧ Blk wx (w.heap.size + 1) zero53 42 ∧ Below w.heap.size w wx) ⟨(Blk.new w C _).alloc _, Blk.new' w _ _ _, ((Below.refl _ _).alloc (Nat.le_refl _) _).alloc (by simp) _⟩ ?_
  rintro w0 ⟨hB, hZ, hb⟩
  have c0 := hB.cell (Array.getElem?_eq_getElem (i := 10) (by omega))
  have f0 := hB.froz 10
  go_upto_region 33 with fail
  have hof := set_rq hM 5 (by omega) n
  refine wp_world' (fun wx => Blk wx w.heap.size (C.setIfInBounds 10 (.int .i64 n)) 42 ∧ Blk wx (w.heap.size + 1) zero53 42 ∧ Below w.heap.size w wx) ⟨hB.set 10 _, hZ.other (by show w.heap.size + 1 ≠ w.heap.size; omega) _, hb.setCell (Nat.le_refl _) _⟩ ?_
  rintro w1 ⟨hB1, hZ1, hb1⟩
  clear c0 f0 hB hZ hb
  have HZ := Lib.hid hZ1
  have hone := Lib.hid (msg_one hof)
  have hsz := Lib.hid (msg_size _ hof.size)
  have hzs := Lib.hid (show zero53.size = (C.setIfInBounds 10 (.int .i64 n)).size from hof.size.symm)
  have hld := Lib.hid (run_load_row' (P := Try.prog) w1 w.heap.size 42 _ 42 _ hB1 Try.underlying42 rfl (msg_size _ hof.size))
  have Hof := Lib.hid hof
  clear hof hB1 hZ1
  generalize C.setIfInBounds 10 (.int .i64 n) = D at *
  go_wp2_with (first | (refine wpList_load_v rfl 42 _ rfl ⟨w.heap.size, 0, none⟩ rfl _ hld.out ?_) | (refine wpList_store_row2 rfl 42 _ _ rfl rfl (w.heap.size + 1) rfl zero53 D 42 HZ.out rfl (by exact hzs.out) hone.out hsz.out ?_; intro wz hBz hmz))
  (try simp only [Exit.inBlock, Exit.then])
  have hlow := hb1.trans (hmz.below hb1.size (fun _ h => by rw [h]; omega))
  have hA2 := marks_below hA hlow
  exact bodyPost_ret (results_cell_row rfl _ _ (w.heap.size + 1) _ _ _ _ rfl hBz Try.underlying42 rfl hsz.out) rfl ⟨D, _, rfl, Hof.out, ⟨hA2.nil, hA2.len, hA2.big, hA2.cells⟩, ⟨hR.kind, hR.round, hR.carrier, hR.req, hR.reserve, (fun j hj => by show I64 (if j = 5 then n else m.rq j); split; exact hn; exact hR.rq j hj), hR.ms, hR.bid, hR.nonce, hR.state, hR.winner, hR.price⟩, hlow⟩

set_option maxHeartbeats 2000000 in
set_option maxRecDepth 100000 in
theorem turned7 (C : Array Value) (m : MV) (w : World) (u n : Int) (hM : MsgOf C m) (hA : MarksAt w m) (hR : MsgRg m) (hu : 0 ≤ u ∧ u < 256) (hn : I64 n) (ht : u % 16 = 7) :
    Calls Try.prog 12 #[.agg C, .int .u8 u, .int .i64 n] w (TurnPost w) := by
  have hC := hM.size
  have hrem : u.tmod 16 = 7 := by rw [Int.tmod_eq_emod_of_nonneg hu.1]; exact ht
  clear ht
  go_enter Try.func12, Try.ntmps12
  go_upto_region 1 with fail
  refine wp_world' (fun wx => Blk wx w.heap.size C 42 ∧ Blk wx (w.heap.size + 1) zero53 42 ∧ Below w.heap.size w wx) ⟨(Blk.new w C _).alloc _, Blk.new' w _ _ _, ((Below.refl _ _).alloc (Nat.le_refl _) _).alloc (by simp) _⟩ ?_
  rintro w0 ⟨hB, hZ, hb⟩
  have c0 := hB.cell (Array.getElem?_eq_getElem (i := 13) (by omega))
  have f0 := hB.froz 13
  go_upto_region 33 with fail
  have hof := set_rq hM 8 (by omega) n
  refine wp_world' (fun wx => Blk wx w.heap.size (C.setIfInBounds 13 (.int .i64 n)) 42 ∧ Blk wx (w.heap.size + 1) zero53 42 ∧ Below w.heap.size w wx) ⟨hB.set 13 _, hZ.other (by show w.heap.size + 1 ≠ w.heap.size; omega) _, hb.setCell (Nat.le_refl _) _⟩ ?_
  rintro w1 ⟨hB1, hZ1, hb1⟩
  clear c0 f0 hB hZ hb
  have HZ := Lib.hid hZ1
  have hone := Lib.hid (msg_one hof)
  have hsz := Lib.hid (msg_size _ hof.size)
  have hzs := Lib.hid (show zero53.size = (C.setIfInBounds 13 (.int .i64 n)).size from hof.size.symm)
  have hld := Lib.hid (run_load_row' (P := Try.prog) w1 w.heap.size 42 _ 42 _ hB1 Try.underlying42 rfl (msg_size _ hof.size))
  have Hof := Lib.hid hof
  clear hof hB1 hZ1
  generalize C.setIfInBounds 13 (.int .i64 n) = D at *
  go_wp2_with (first | (refine wpList_load_v rfl 42 _ rfl ⟨w.heap.size, 0, none⟩ rfl _ hld.out ?_) | (refine wpList_store_row2 rfl 42 _ _ rfl rfl (w.heap.size + 1) rfl zero53 D 42 HZ.out rfl (by exact hzs.out) hone.out hsz.out ?_; intro wz hBz hmz))
  (try simp only [Exit.inBlock, Exit.then])
  have hlow := hb1.trans (hmz.below hb1.size (fun _ h => by rw [h]; omega))
  have hA2 := marks_below hA hlow
  exact bodyPost_ret (results_cell_row rfl _ _ (w.heap.size + 1) _ _ _ _ rfl hBz Try.underlying42 rfl hsz.out) rfl ⟨D, _, rfl, Hof.out, ⟨hA2.nil, hA2.len, hA2.big, hA2.cells⟩, ⟨hR.kind, hR.round, hR.carrier, hR.req, hR.reserve, (fun j hj => by show I64 (if j = 8 then n else m.rq j); split; exact hn; exact hR.rq j hj), hR.ms, hR.bid, hR.nonce, hR.state, hR.winner, hR.price⟩, hlow⟩

set_option maxHeartbeats 2000000 in
set_option maxRecDepth 100000 in
theorem turned8 (C : Array Value) (m : MV) (w : World) (u n : Int) (hM : MsgOf C m) (hA : MarksAt w m) (hR : MsgRg m) (hu : 0 ≤ u ∧ u < 256) (hn : I64 n) (ht : u % 16 = 8) :
    Calls Try.prog 12 #[.agg C, .int .u8 u, .int .i64 n] w (TurnPost w) := by
  have hC := hM.size
  have hrem : u.tmod 16 = 8 := by rw [Int.tmod_eq_emod_of_nonneg hu.1]; exact ht
  clear ht
  go_enter Try.func12, Try.ntmps12
  go_upto_region 1 with fail
  refine wp_world' (fun wx => Blk wx w.heap.size C 42 ∧ Blk wx (w.heap.size + 1) zero53 42 ∧ Below w.heap.size w wx) ⟨(Blk.new w C _).alloc _, Blk.new' w _ _ _, ((Below.refl _ _).alloc (Nat.le_refl _) _).alloc (by simp) _⟩ ?_
  rintro w0 ⟨hB, hZ, hb⟩
  have c0 := hB.cell (Array.getElem?_eq_getElem (i := 14) (by omega))
  have f0 := hB.froz 14
  go_upto_region 33 with fail
  have hof := set_rq hM 9 (by omega) n
  refine wp_world' (fun wx => Blk wx w.heap.size (C.setIfInBounds 14 (.int .i64 n)) 42 ∧ Blk wx (w.heap.size + 1) zero53 42 ∧ Below w.heap.size w wx) ⟨hB.set 14 _, hZ.other (by show w.heap.size + 1 ≠ w.heap.size; omega) _, hb.setCell (Nat.le_refl _) _⟩ ?_
  rintro w1 ⟨hB1, hZ1, hb1⟩
  clear c0 f0 hB hZ hb
  have HZ := Lib.hid hZ1
  have hone := Lib.hid (msg_one hof)
  have hsz := Lib.hid (msg_size _ hof.size)
  have hzs := Lib.hid (show zero53.size = (C.setIfInBounds 14 (.int .i64 n)).size from hof.size.symm)
  have hld := Lib.hid (run_load_row' (P := Try.prog) w1 w.heap.size 42 _ 42 _ hB1 Try.underlying42 rfl (msg_size _ hof.size))
  have Hof := Lib.hid hof
  clear hof hB1 hZ1
  generalize C.setIfInBounds 14 (.int .i64 n) = D at *
  go_wp2_with (first | (refine wpList_load_v rfl 42 _ rfl ⟨w.heap.size, 0, none⟩ rfl _ hld.out ?_) | (refine wpList_store_row2 rfl 42 _ _ rfl rfl (w.heap.size + 1) rfl zero53 D 42 HZ.out rfl (by exact hzs.out) hone.out hsz.out ?_; intro wz hBz hmz))
  (try simp only [Exit.inBlock, Exit.then])
  have hlow := hb1.trans (hmz.below hb1.size (fun _ h => by rw [h]; omega))
  have hA2 := marks_below hA hlow
  exact bodyPost_ret (results_cell_row rfl _ _ (w.heap.size + 1) _ _ _ _ rfl hBz Try.underlying42 rfl hsz.out) rfl ⟨D, _, rfl, Hof.out, ⟨hA2.nil, hA2.len, hA2.big, hA2.cells⟩, ⟨hR.kind, hR.round, hR.carrier, hR.req, hR.reserve, (fun j hj => by show I64 (if j = 9 then n else m.rq j); split; exact hn; exact hR.rq j hj), hR.ms, hR.bid, hR.nonce, hR.state, hR.winner, hR.price⟩, hlow⟩

set_option maxHeartbeats 2000000 in
set_option maxRecDepth 100000 in
theorem turned9 (C : Array Value) (m : MV) (w : World) (u n : Int) (hM : MsgOf C m) (hA : MarksAt w m) (hR : MsgRg m) (hu : 0 ≤ u ∧ u < 256) (_ : I64 n) (ht : u % 16 = 9) :
    Calls Try.prog 12 #[.agg C, .int .u8 u, .int .i64 n] w (TurnPost w) := by
  have hC := hM.size
  have hrem : u.tmod 16 = 9 := by rw [Int.tmod_eq_emod_of_nonneg hu.1]; exact ht
  clear ht
  go_enter Try.func12, Try.ntmps12
  go_upto_region 1 with fail
  refine wp_world' (fun wx => Blk wx w.heap.size C 42 ∧ Blk wx (w.heap.size + 1) zero53 42 ∧ Below w.heap.size w wx) ⟨(Blk.new w C _).alloc _, Blk.new' w _ _ _, ((Below.refl _ _).alloc (Nat.le_refl _) _).alloc (by simp) _⟩ ?_
  rintro w0 ⟨hB, hZ, hb⟩
  have c0 := hB.cell (Array.getElem?_eq_getElem (i := 15) (by omega))
  have f0 := hB.froz 15
  obtain ⟨b, hbv⟩ := u8_cell n
  replace hbv := Lib.hid hbv
  go_upto_region 33 with fail
  have hof := set_dg hM b
  refine wp_world' (fun wx => Blk wx w.heap.size (C.setIfInBounds 15 (cell b)) 42 ∧ Blk wx (w.heap.size + 1) zero53 42 ∧ Below w.heap.size w wx) ⟨(by rw [← hbv.out]; exact hB.set 15 _), hZ.other (by show w.heap.size + 1 ≠ w.heap.size; omega) _, hb.setCell (Nat.le_refl _) _⟩ ?_
  rintro w1 ⟨hB1, hZ1, hb1⟩
  clear c0 f0 hB hZ hb
  have HZ := Lib.hid hZ1
  have hone := Lib.hid (msg_one hof)
  have hsz := Lib.hid (msg_size _ hof.size)
  have hzs := Lib.hid (show zero53.size = (C.setIfInBounds 15 (cell b)).size from hof.size.symm)
  have hld := Lib.hid (run_load_row' (P := Try.prog) w1 w.heap.size 42 _ 42 _ hB1 Try.underlying42 rfl (msg_size _ hof.size))
  have Hof := Lib.hid hof
  clear hof hB1 hZ1
  generalize C.setIfInBounds 15 (cell b) = D at *
  go_wp2_with (first | (refine wpList_load_v rfl 42 _ rfl ⟨w.heap.size, 0, none⟩ rfl _ hld.out ?_) | (refine wpList_store_row2 rfl 42 _ _ rfl rfl (w.heap.size + 1) rfl zero53 D 42 HZ.out rfl (by exact hzs.out) hone.out hsz.out ?_; intro wz hBz hmz))
  (try simp only [Exit.inBlock, Exit.then])
  have hlow := hb1.trans (hmz.below hb1.size (fun _ h => by rw [h]; omega))
  have hA2 := marks_below hA hlow
  exact bodyPost_ret (results_cell_row rfl _ _ (w.heap.size + 1) _ _ _ _ rfl hBz Try.underlying42 rfl hsz.out) rfl ⟨D, _, rfl, Hof.out, ⟨hA2.nil, hA2.len, hA2.big, hA2.cells⟩, ⟨hR.kind, hR.round, hR.carrier, hR.req, hR.reserve, hR.rq, hR.ms, hR.bid, hR.nonce, hR.state, hR.winner, hR.price⟩, hlow⟩

set_option maxHeartbeats 2000000 in
set_option maxRecDepth 100000 in
theorem turned11 (C : Array Value) (m : MV) (w : World) (u n : Int) (hM : MsgOf C m) (hA : MarksAt w m) (hR : MsgRg m) (hu : 0 ≤ u ∧ u < 256) (_ : I64 n) (ht : u % 16 = 11) :
    Calls Try.prog 12 #[.agg C, .int .u8 u, .int .i64 n] w (TurnPost w) := by
  have hC := hM.size
  have hrem : u.tmod 16 = 11 := by rw [Int.tmod_eq_emod_of_nonneg hu.1]; exact ht
  clear ht
  go_enter Try.func12, Try.ntmps12
  go_upto_region 1 with fail
  refine wp_world' (fun wx => Blk wx w.heap.size C 42 ∧ Blk wx (w.heap.size + 1) zero53 42 ∧ Below w.heap.size w wx) ⟨(Blk.new w C _).alloc _, Blk.new' w _ _ _, ((Below.refl _ _).alloc (Nat.le_refl _) _).alloc (by simp) _⟩ ?_
  rintro w0 ⟨hB, hZ, hb⟩
  have c0 := hB.cell (Array.getElem?_eq_getElem (i := 48) (by omega))
  have f0 := hB.froz 48
  go_upto_region 33 with fail
  have hof := set_bid hM (IntKind.u64.wrap n)
  refine wp_world' (fun wx => Blk wx w.heap.size (C.setIfInBounds 48 (.int .u64 (IntKind.u64.wrap n))) 42 ∧ Blk wx (w.heap.size + 1) zero53 42 ∧ Below w.heap.size w wx) ⟨hB.set 48 _, hZ.other (by show w.heap.size + 1 ≠ w.heap.size; omega) _, hb.setCell (Nat.le_refl _) _⟩ ?_
  rintro w1 ⟨hB1, hZ1, hb1⟩
  clear c0 f0 hB hZ hb
  have HZ := Lib.hid hZ1
  have hone := Lib.hid (msg_one hof)
  have hsz := Lib.hid (msg_size _ hof.size)
  have hzs := Lib.hid (show zero53.size = (C.setIfInBounds 48 (.int .u64 (IntKind.u64.wrap n))).size from hof.size.symm)
  have hld := Lib.hid (run_load_row' (P := Try.prog) w1 w.heap.size 42 _ 42 _ hB1 Try.underlying42 rfl (msg_size _ hof.size))
  have Hof := Lib.hid hof
  clear hof hB1 hZ1
  generalize C.setIfInBounds 48 (.int .u64 (IntKind.u64.wrap n)) = D at *
  go_wp2_with (first | (refine wpList_load_v rfl 42 _ rfl ⟨w.heap.size, 0, none⟩ rfl _ hld.out ?_) | (refine wpList_store_row2 rfl 42 _ _ rfl rfl (w.heap.size + 1) rfl zero53 D 42 HZ.out rfl (by exact hzs.out) hone.out hsz.out ?_; intro wz hBz hmz))
  (try simp only [Exit.inBlock, Exit.then])
  have hlow := hb1.trans (hmz.below hb1.size (fun _ h => by rw [h]; omega))
  have hA2 := marks_below hA hlow
  exact bodyPost_ret (results_cell_row rfl _ _ (w.heap.size + 1) _ _ _ _ rfl hBz Try.underlying42 rfl hsz.out) rfl ⟨D, _, rfl, Hof.out, ⟨hA2.nil, hA2.len, hA2.big, hA2.cells⟩, ⟨hR.kind, hR.round, hR.carrier, hR.req, hR.reserve, hR.rq, hR.ms, u64_rg n, hR.nonce, hR.state, hR.winner, hR.price⟩, hlow⟩

set_option maxHeartbeats 2000000 in
set_option maxRecDepth 100000 in
theorem turned12 (C : Array Value) (m : MV) (w : World) (u n : Int) (hM : MsgOf C m) (hA : MarksAt w m) (hR : MsgRg m) (hu : 0 ≤ u ∧ u < 256) (_ : I64 n) (ht : u % 16 = 12) :
    Calls Try.prog 12 #[.agg C, .int .u8 u, .int .i64 n] w (TurnPost w) := by
  have hC := hM.size
  have hrem : u.tmod 16 = 12 := by rw [Int.tmod_eq_emod_of_nonneg hu.1]; exact ht
  clear ht
  go_enter Try.func12, Try.ntmps12
  go_upto_region 1 with fail
  refine wp_world' (fun wx => Blk wx w.heap.size C 42 ∧ Blk wx (w.heap.size + 1) zero53 42 ∧ Below w.heap.size w wx) ⟨(Blk.new w C _).alloc _, Blk.new' w _ _ _, ((Below.refl _ _).alloc (Nat.le_refl _) _).alloc (by simp) _⟩ ?_
  rintro w0 ⟨hB, hZ, hb⟩
  have c0 := hB.cell (Array.getElem?_eq_getElem (i := 49) (by omega))
  have f0 := hB.froz 49
  go_upto_region 33 with fail
  have hof := set_nonce hM (IntKind.u64.wrap n)
  refine wp_world' (fun wx => Blk wx w.heap.size (C.setIfInBounds 49 (.int .u64 (IntKind.u64.wrap n))) 42 ∧ Blk wx (w.heap.size + 1) zero53 42 ∧ Below w.heap.size w wx) ⟨hB.set 49 _, hZ.other (by show w.heap.size + 1 ≠ w.heap.size; omega) _, hb.setCell (Nat.le_refl _) _⟩ ?_
  rintro w1 ⟨hB1, hZ1, hb1⟩
  clear c0 f0 hB hZ hb
  have HZ := Lib.hid hZ1
  have hone := Lib.hid (msg_one hof)
  have hsz := Lib.hid (msg_size _ hof.size)
  have hzs := Lib.hid (show zero53.size = (C.setIfInBounds 49 (.int .u64 (IntKind.u64.wrap n))).size from hof.size.symm)
  have hld := Lib.hid (run_load_row' (P := Try.prog) w1 w.heap.size 42 _ 42 _ hB1 Try.underlying42 rfl (msg_size _ hof.size))
  have Hof := Lib.hid hof
  clear hof hB1 hZ1
  generalize C.setIfInBounds 49 (.int .u64 (IntKind.u64.wrap n)) = D at *
  go_wp2_with (first | (refine wpList_load_v rfl 42 _ rfl ⟨w.heap.size, 0, none⟩ rfl _ hld.out ?_) | (refine wpList_store_row2 rfl 42 _ _ rfl rfl (w.heap.size + 1) rfl zero53 D 42 HZ.out rfl (by exact hzs.out) hone.out hsz.out ?_; intro wz hBz hmz))
  (try simp only [Exit.inBlock, Exit.then])
  have hlow := hb1.trans (hmz.below hb1.size (fun _ h => by rw [h]; omega))
  have hA2 := marks_below hA hlow
  exact bodyPost_ret (results_cell_row rfl _ _ (w.heap.size + 1) _ _ _ _ rfl hBz Try.underlying42 rfl hsz.out) rfl ⟨D, _, rfl, Hof.out, ⟨hA2.nil, hA2.len, hA2.big, hA2.cells⟩, ⟨hR.kind, hR.round, hR.carrier, hR.req, hR.reserve, hR.rq, hR.ms, hR.bid, u64_rg n, hR.state, hR.winner, hR.price⟩, hlow⟩

set_option maxHeartbeats 2000000 in
set_option maxRecDepth 100000 in
theorem turned13 (C : Array Value) (m : MV) (w : World) (u n : Int) (hM : MsgOf C m) (hA : MarksAt w m) (hR : MsgRg m) (hu : 0 ≤ u ∧ u < 256) (hn : I64 n) (ht : u % 16 = 13) :
    Calls Try.prog 12 #[.agg C, .int .u8 u, .int .i64 n] w (TurnPost w) := by
  have hC := hM.size
  have hrem : u.tmod 16 = 13 := by rw [Int.tmod_eq_emod_of_nonneg hu.1]; exact ht
  clear ht
  go_enter Try.func12, Try.ntmps12
  go_upto_region 1 with fail
  refine wp_world' (fun wx => Blk wx w.heap.size C 42 ∧ Blk wx (w.heap.size + 1) zero53 42 ∧ Below w.heap.size w wx) ⟨(Blk.new w C _).alloc _, Blk.new' w _ _ _, ((Below.refl _ _).alloc (Nat.le_refl _) _).alloc (by simp) _⟩ ?_
  rintro w0 ⟨hB, hZ, hb⟩
  have c0 := hB.cell (Array.getElem?_eq_getElem (i := 50) (by omega))
  have f0 := hB.froz 50
  go_upto_region 33 with fail
  have hof := set_state hM n
  refine wp_world' (fun wx => Blk wx w.heap.size (C.setIfInBounds 50 (.int .i64 n)) 42 ∧ Blk wx (w.heap.size + 1) zero53 42 ∧ Below w.heap.size w wx) ⟨hB.set 50 _, hZ.other (by show w.heap.size + 1 ≠ w.heap.size; omega) _, hb.setCell (Nat.le_refl _) _⟩ ?_
  rintro w1 ⟨hB1, hZ1, hb1⟩
  clear c0 f0 hB hZ hb
  have HZ := Lib.hid hZ1
  have hone := Lib.hid (msg_one hof)
  have hsz := Lib.hid (msg_size _ hof.size)
  have hzs := Lib.hid (show zero53.size = (C.setIfInBounds 50 (.int .i64 n)).size from hof.size.symm)
  have hld := Lib.hid (run_load_row' (P := Try.prog) w1 w.heap.size 42 _ 42 _ hB1 Try.underlying42 rfl (msg_size _ hof.size))
  have Hof := Lib.hid hof
  clear hof hB1 hZ1
  generalize C.setIfInBounds 50 (.int .i64 n) = D at *
  go_wp2_with (first | (refine wpList_load_v rfl 42 _ rfl ⟨w.heap.size, 0, none⟩ rfl _ hld.out ?_) | (refine wpList_store_row2 rfl 42 _ _ rfl rfl (w.heap.size + 1) rfl zero53 D 42 HZ.out rfl (by exact hzs.out) hone.out hsz.out ?_; intro wz hBz hmz))
  (try simp only [Exit.inBlock, Exit.then])
  have hlow := hb1.trans (hmz.below hb1.size (fun _ h => by rw [h]; omega))
  have hA2 := marks_below hA hlow
  exact bodyPost_ret (results_cell_row rfl _ _ (w.heap.size + 1) _ _ _ _ rfl hBz Try.underlying42 rfl hsz.out) rfl ⟨D, _, rfl, Hof.out, ⟨hA2.nil, hA2.len, hA2.big, hA2.cells⟩, ⟨hR.kind, hR.round, hR.carrier, hR.req, hR.reserve, hR.rq, hR.ms, hR.bid, hR.nonce, hn, hR.winner, hR.price⟩, hlow⟩

set_option maxHeartbeats 2000000 in
set_option maxRecDepth 100000 in
theorem turned14 (C : Array Value) (m : MV) (w : World) (u n : Int) (hM : MsgOf C m) (hA : MarksAt w m) (hR : MsgRg m) (hu : 0 ≤ u ∧ u < 256) (hn : I64 n) (ht : u % 16 = 14) :
    Calls Try.prog 12 #[.agg C, .int .u8 u, .int .i64 n] w (TurnPost w) := by
  have hC := hM.size
  have hrem : u.tmod 16 = 14 := by rw [Int.tmod_eq_emod_of_nonneg hu.1]; exact ht
  clear ht
  go_enter Try.func12, Try.ntmps12
  go_upto_region 1 with fail
  refine wp_world' (fun wx => Blk wx w.heap.size C 42 ∧ Blk wx (w.heap.size + 1) zero53 42 ∧ Below w.heap.size w wx) ⟨(Blk.new w C _).alloc _, Blk.new' w _ _ _, ((Below.refl _ _).alloc (Nat.le_refl _) _).alloc (by simp) _⟩ ?_
  rintro w0 ⟨hB, hZ, hb⟩
  have c0 := hB.cell (Array.getElem?_eq_getElem (i := 51) (by omega))
  have f0 := hB.froz 51
  go_upto_region 33 with fail
  have hof := set_winner hM n
  refine wp_world' (fun wx => Blk wx w.heap.size (C.setIfInBounds 51 (.int .i64 n)) 42 ∧ Blk wx (w.heap.size + 1) zero53 42 ∧ Below w.heap.size w wx) ⟨hB.set 51 _, hZ.other (by show w.heap.size + 1 ≠ w.heap.size; omega) _, hb.setCell (Nat.le_refl _) _⟩ ?_
  rintro w1 ⟨hB1, hZ1, hb1⟩
  clear c0 f0 hB hZ hb
  have HZ := Lib.hid hZ1
  have hone := Lib.hid (msg_one hof)
  have hsz := Lib.hid (msg_size _ hof.size)
  have hzs := Lib.hid (show zero53.size = (C.setIfInBounds 51 (.int .i64 n)).size from hof.size.symm)
  have hld := Lib.hid (run_load_row' (P := Try.prog) w1 w.heap.size 42 _ 42 _ hB1 Try.underlying42 rfl (msg_size _ hof.size))
  have Hof := Lib.hid hof
  clear hof hB1 hZ1
  generalize C.setIfInBounds 51 (.int .i64 n) = D at *
  go_wp2_with (first | (refine wpList_load_v rfl 42 _ rfl ⟨w.heap.size, 0, none⟩ rfl _ hld.out ?_) | (refine wpList_store_row2 rfl 42 _ _ rfl rfl (w.heap.size + 1) rfl zero53 D 42 HZ.out rfl (by exact hzs.out) hone.out hsz.out ?_; intro wz hBz hmz))
  (try simp only [Exit.inBlock, Exit.then])
  have hlow := hb1.trans (hmz.below hb1.size (fun _ h => by rw [h]; omega))
  have hA2 := marks_below hA hlow
  exact bodyPost_ret (results_cell_row rfl _ _ (w.heap.size + 1) _ _ _ _ rfl hBz Try.underlying42 rfl hsz.out) rfl ⟨D, _, rfl, Hof.out, ⟨hA2.nil, hA2.len, hA2.big, hA2.cells⟩, ⟨hR.kind, hR.round, hR.carrier, hR.req, hR.reserve, hR.rq, hR.ms, hR.bid, hR.nonce, hR.state, hn, hR.price⟩, hlow⟩

set_option maxHeartbeats 2000000 in
set_option maxRecDepth 100000 in
theorem turned15 (C : Array Value) (m : MV) (w : World) (u n : Int) (hM : MsgOf C m) (hA : MarksAt w m) (hR : MsgRg m) (hu : 0 ≤ u ∧ u < 256) (_ : I64 n) (ht : u % 16 = 15) :
    Calls Try.prog 12 #[.agg C, .int .u8 u, .int .i64 n] w (TurnPost w) := by
  have hC := hM.size
  have hrem : u.tmod 16 = 15 := by rw [Int.tmod_eq_emod_of_nonneg hu.1]; exact ht
  clear ht
  go_enter Try.func12, Try.ntmps12
  go_upto_region 1 with fail
  refine wp_world' (fun wx => Blk wx w.heap.size C 42 ∧ Blk wx (w.heap.size + 1) zero53 42 ∧ Below w.heap.size w wx) ⟨(Blk.new w C _).alloc _, Blk.new' w _ _ _, ((Below.refl _ _).alloc (Nat.le_refl _) _).alloc (by simp) _⟩ ?_
  rintro w0 ⟨hB, hZ, hb⟩
  have c0 := hB.cell (Array.getElem?_eq_getElem (i := 52) (by omega))
  have f0 := hB.froz 52
  go_upto_region 33 with fail
  have hof := set_price hM (IntKind.u64.wrap n)
  refine wp_world' (fun wx => Blk wx w.heap.size (C.setIfInBounds 52 (.int .u64 (IntKind.u64.wrap n))) 42 ∧ Blk wx (w.heap.size + 1) zero53 42 ∧ Below w.heap.size w wx) ⟨hB.set 52 _, hZ.other (by show w.heap.size + 1 ≠ w.heap.size; omega) _, hb.setCell (Nat.le_refl _) _⟩ ?_
  rintro w1 ⟨hB1, hZ1, hb1⟩
  clear c0 f0 hB hZ hb
  have HZ := Lib.hid hZ1
  have hone := Lib.hid (msg_one hof)
  have hsz := Lib.hid (msg_size _ hof.size)
  have hzs := Lib.hid (show zero53.size = (C.setIfInBounds 52 (.int .u64 (IntKind.u64.wrap n))).size from hof.size.symm)
  have hld := Lib.hid (run_load_row' (P := Try.prog) w1 w.heap.size 42 _ 42 _ hB1 Try.underlying42 rfl (msg_size _ hof.size))
  have Hof := Lib.hid hof
  clear hof hB1 hZ1
  generalize C.setIfInBounds 52 (.int .u64 (IntKind.u64.wrap n)) = D at *
  go_wp2_with (first | (refine wpList_load_v rfl 42 _ rfl ⟨w.heap.size, 0, none⟩ rfl _ hld.out ?_) | (refine wpList_store_row2 rfl 42 _ _ rfl rfl (w.heap.size + 1) rfl zero53 D 42 HZ.out rfl (by exact hzs.out) hone.out hsz.out ?_; intro wz hBz hmz))
  (try simp only [Exit.inBlock, Exit.then])
  have hlow := hb1.trans (hmz.below hb1.size (fun _ h => by rw [h]; omega))
  have hA2 := marks_below hA hlow
  exact bodyPost_ret (results_cell_row rfl _ _ (w.heap.size + 1) _ _ _ _ rfl hBz Try.underlying42 rfl hsz.out) rfl ⟨D, _, rfl, Hof.out, ⟨hA2.nil, hA2.len, hA2.big, hA2.cells⟩, ⟨hR.kind, hR.round, hR.carrier, hR.req, hR.reserve, hR.rq, hR.ms, hR.bid, hR.nonce, hR.state, hR.winner, u64_rg n⟩, hlow⟩
end Go.Proofs.Ytcipdimnbleljaa
