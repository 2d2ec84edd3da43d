/-
  The document's side of layer 18: bare.
-/
import Derived.Test.YtcipdimnbleljaaRfB
import Derived.Test.YtcipdimnbleljaaSeq
namespace Go.Proofs.Ytcipdimnbleljaa
open Go.RowKit
open Extern.Stop (cell)

/-- a row that has C's cells at K, and zero cells elsewhere -/
structure Mix (C D : Array Value) (K : Nat → Bool) : Prop where
  size : D.size = 53
  get : ∀ i, i < 53 → D[i]? = if K i = true then C[i]? else zero53[i]?
section
variable {C D : Array Value} {K : Nat → Bool}
theorem Mix.on (h : Mix C D K) {i : Nat} (hi : i < 53) (hk : K i = true) : D[i]? = C[i]? := by rw [h.get i hi, if_pos hk]
theorem Mix.off (h : Mix C D K) {i : Nat} (hi : i < 53) (hk : K i = false) : D[i]? = zero53[i]? := by rw [h.get i hi, if_neg (by rw [hk]; decide)]
theorem mix_zero (C : Array Value) : Mix C zero53 (fun _ => false) := ⟨rfl, fun _ _ => rfl⟩
theorem Mix.set (h : Mix C D K) {o : Nat} (ho : o < 53) {v : Value} (hv : C[o]? = some v) : Mix C (D.setIfInBounds o v) (fun i => Nat.beq i o || K i) := by
  refine ⟨by rw [Array.size_setIfInBounds]; exact h.size, fun i hi => ?_⟩
  by_cases hio : i = o
  · subst hio
    rw [set_eq (by rw [h.size]; exact hi), if_pos (by simp), hv]
  · rw [set_ne (Ne.symm hio), h.get i hi]
    have e : Nat.beq i o = false := by
      cases hb : Nat.beq i o with
      | false => rfl
      | true => exact absurd (Nat.eq_of_beq_eq_true hb) hio
    rw [e, Bool.false_or]
theorem Mix.part (h : Mix C D K) (hC : C.size = 53) {o n : Nat} (ho : o + n ≤ 53) : Mix C (D.toList.take o ++ (C.extract o (o + n)).toList ++ D.toList.drop (o + (C.extract o (o + n)).size)).toArray (fun i => (decide (o ≤ i) && decide (i < o + n)) || K i) := by
  have hn : (C.extract o (o + n)).size = n := by simp; omega
  refine ⟨by rw [splice_size _ _ _ (by rw [hn, h.size]; exact ho)]; exact h.size, fun i hi => ?_⟩
  rw [splice_get _ _ _ (by rw [hn, h.size]; exact ho), hn]
  by_cases hin : o ≤ i ∧ i < o + n
  · rw [if_pos hin, if_pos (by simp [hin.1, hin.2]), Array.getElem?_extract_of_lt (by omega)]
    have e : o + (i - o) = i := by omega
    simp only [e]
    exact (Array.getElem?_eq_getElem (by omega)).symm
  · rw [if_neg hin, h.get i hi]
    have e : (decide (o ≤ i) && decide (i < o + n)) = false := by
      cases hb : (decide (o ≤ i) && decide (i < o + n)) with
      | false => rfl
      | true => simp at hb; exact absurd hb hin
    rw [e, Bool.false_or]
end
theorem mix_of1 {C D : Array Value} {m : MV} {K : Nat → Bool} (h : Mix C D K) (hM : MsgOf C m) (hk : m.kind = 1) (k0 : K 0 = true) (k1 : K 1 = true) (k2 : K 2 = false) (k3 : K 3 = true) (k4 : K 4 = true) (k5 : ∀ i, i < 10 → K (5 + i) = true) (k15 : ∀ i, i < 32 → K (15 + i) = false)
    (k47 : K 47 = false) (k48 : K 48 = false) (k49 : K 49 = false) (k50 : K 50 = false) (k51 : K 51 = false) (k52 : K 52 = false) : MsgOf D (bareM m) := by
  rw [show bareM m = { zeroM with kind := m.kind, round := m.round, req := m.req, reserve := m.reserve, rq := m.rq } from if_pos hk]
  exact ⟨h.size, (h.on (by omega) k0).trans hM.h0, (h.on (by omega) k1).trans hM.h1, (h.off (by omega) k2).trans zero_of.h2, (h.on (by omega) k3).trans hM.h3, (h.on (by omega) k4).trans hM.h4, fun i hi => (h.on (by omega) (k5 i hi)).trans (hM.h5 i hi), fun i hi => (h.off (by omega) (k15 i hi)).trans (zero_of.h15 i hi), zero_of.l15,
    (h.off (by omega) k47).trans zero_of.h47, (h.off (by omega) k48).trans zero_of.h48, (h.off (by omega) k49).trans zero_of.h49, (h.off (by omega) k50).trans zero_of.h50, (h.off (by omega) k51).trans zero_of.h51, (h.off (by omega) k52).trans zero_of.h52⟩
theorem mix_of2 {C D : Array Value} {m : MV} {K : Nat → Bool} (h : Mix C D K) (hM : MsgOf C m) (hk : m.kind = 2) (k0 : K 0 = true) (k1 : K 1 = true) (k2 : K 2 = true) (k3 : K 3 = false) (k4 : K 4 = false) (k5 : ∀ i, i < 10 → K (5 + i) = false) (k15 : ∀ i, i < 32 → K (15 + i) = true)
    (k47 : K 47 = false) (k48 : K 48 = false) (k49 : K 49 = false) (k50 : K 50 = false) (k51 : K 51 = false) (k52 : K 52 = false) : MsgOf D (bareM m) := by
  rw [show bareM m = { zeroM with kind := m.kind, round := m.round, carrier := m.carrier, dg := m.dg } by unfold bareM; rw [if_neg (by omega), if_pos hk]]
  exact ⟨h.size, (h.on (by omega) k0).trans hM.h0, (h.on (by omega) k1).trans hM.h1, (h.on (by omega) k2).trans hM.h2, (h.off (by omega) k3).trans zero_of.h3, (h.off (by omega) k4).trans zero_of.h4, fun i hi => (h.off (by omega) (k5 i hi)).trans (zero_of.h5 i hi), fun i hi => (h.on (by omega) (k15 i hi)).trans (hM.h15 i hi), hM.l15,
    (h.off (by omega) k47).trans zero_of.h47, (h.off (by omega) k48).trans zero_of.h48, (h.off (by omega) k49).trans zero_of.h49, (h.off (by omega) k50).trans zero_of.h50, (h.off (by omega) k51).trans zero_of.h51, (h.off (by omega) k52).trans zero_of.h52⟩
theorem mix_of3 {C D : Array Value} {m : MV} {K : Nat → Bool} (h : Mix C D K) (hM : MsgOf C m) (hk : m.kind = 3) (k0 : K 0 = true) (k1 : K 1 = true) (k2 : K 2 = false) (k3 : K 3 = false) (k4 : K 4 = false) (k5 : ∀ i, i < 10 → K (5 + i) = false) (k15 : ∀ i, i < 32 → K (15 + i) = false)
    (k47 : K 47 = true) (k48 : K 48 = false) (k49 : K 49 = false) (k50 : K 50 = false) (k51 : K 51 = false) (k52 : K 52 = false) : MsgOf D (bareM m) := by
  rw [show bareM m = { zeroM with kind := m.kind, round := m.round, ms := m.ms, p := m.p, cap := m.cap } by unfold bareM; rw [if_neg (by omega), if_neg (by omega), if_pos hk]]
  exact ⟨h.size, (h.on (by omega) k0).trans hM.h0, (h.on (by omega) k1).trans hM.h1, (h.off (by omega) k2).trans zero_of.h2, (h.off (by omega) k3).trans zero_of.h3, (h.off (by omega) k4).trans zero_of.h4, fun i hi => (h.off (by omega) (k5 i hi)).trans (zero_of.h5 i hi), fun i hi => (h.off (by omega) (k15 i hi)).trans (zero_of.h15 i hi), zero_of.l15,
    (h.on (by omega) k47).trans hM.h47, (h.off (by omega) k48).trans zero_of.h48, (h.off (by omega) k49).trans zero_of.h49, (h.off (by omega) k50).trans zero_of.h50, (h.off (by omega) k51).trans zero_of.h51, (h.off (by omega) k52).trans zero_of.h52⟩
theorem mix_of4 {C D : Array Value} {m : MV} {K : Nat → Bool} (h : Mix C D K) (hM : MsgOf C m) (hk : m.kind = 4) (k0 : K 0 = true) (k1 : K 1 = true) (k2 : K 2 = true) (k3 : K 3 = false) (k4 : K 4 = false) (k5 : ∀ i, i < 10 → K (5 + i) = false) (k15 : ∀ i, i < 32 → K (15 + i) = false)
    (k47 : K 47 = false) (k48 : K 48 = true) (k49 : K 49 = true) (k50 : K 50 = false) (k51 : K 51 = false) (k52 : K 52 = false) : MsgOf D (bareM m) := by
  rw [show bareM m = { zeroM with kind := m.kind, round := m.round, carrier := m.carrier, bid := m.bid, nonce := m.nonce } by unfold bareM; rw [if_neg (by omega), if_neg (by omega), if_neg (by omega), if_pos hk]]
  exact ⟨h.size, (h.on (by omega) k0).trans hM.h0, (h.on (by omega) k1).trans hM.h1, (h.on (by omega) k2).trans hM.h2, (h.off (by omega) k3).trans zero_of.h3, (h.off (by omega) k4).trans zero_of.h4, fun i hi => (h.off (by omega) (k5 i hi)).trans (zero_of.h5 i hi), fun i hi => (h.off (by omega) (k15 i hi)).trans (zero_of.h15 i hi), zero_of.l15,
    (h.off (by omega) k47).trans zero_of.h47, (h.on (by omega) k48).trans hM.h48, (h.on (by omega) k49).trans hM.h49, (h.off (by omega) k50).trans zero_of.h50, (h.off (by omega) k51).trans zero_of.h51, (h.off (by omega) k52).trans zero_of.h52⟩
theorem mix_of5 {C D : Array Value} {m : MV} {K : Nat → Bool} (h : Mix C D K) (hM : MsgOf C m) (hk : m.kind = 5) (k0 : K 0 = true) (k1 : K 1 = true) (k2 : K 2 = false) (k3 : K 3 = false) (k4 : K 4 = false) (k5 : ∀ i, i < 10 → K (5 + i) = false) (k15 : ∀ i, i < 32 → K (15 + i) = false)
    (k47 : K 47 = false) (k48 : K 48 = false) (k49 : K 49 = false) (k50 : K 50 = true) (k51 : K 51 = true) (k52 : K 52 = true) : MsgOf D (bareM m) := by
  rw [show bareM m = { zeroM with kind := m.kind, round := m.round, state := m.state, winner := m.winner, price := m.price } by unfold bareM; rw [if_neg (by omega), if_neg (by omega), if_neg (by omega), if_neg (by omega), if_pos hk]]
  exact ⟨h.size, (h.on (by omega) k0).trans hM.h0, (h.on (by omega) k1).trans hM.h1, (h.off (by omega) k2).trans zero_of.h2, (h.off (by omega) k3).trans zero_of.h3, (h.off (by omega) k4).trans zero_of.h4, fun i hi => (h.off (by omega) (k5 i hi)).trans (zero_of.h5 i hi), fun i hi => (h.off (by omega) (k15 i hi)).trans (zero_of.h15 i hi), zero_of.l15,
    (h.off (by omega) k47).trans zero_of.h47, (h.off (by omega) k48).trans zero_of.h48, (h.off (by omega) k49).trans zero_of.h49, (h.on (by omega) k50).trans hM.h50, (h.on (by omega) k51).trans hM.h51, (h.on (by omega) k52).trans hM.h52⟩
theorem mix_of0 {C D : Array Value} {m : MV} {K : Nat → Bool} (h : Mix C D K) (hM : MsgOf C m) (hk : ¬ (1 ≤ m.kind ∧ m.kind ≤ 5)) (k0 : K 0 = true) (k1 : K 1 = true) (k2 : K 2 = false) (k3 : K 3 = false) (k4 : K 4 = false) (k5 : ∀ i, i < 10 → K (5 + i) = false) (k15 : ∀ i, i < 32 → K (15 + i) = false)
    (k47 : K 47 = false) (k48 : K 48 = false) (k49 : K 49 = false) (k50 : K 50 = false) (k51 : K 51 = false) (k52 : K 52 = false) : MsgOf D (bareM m) := by
  rw [show bareM m = { zeroM with kind := m.kind, round := m.round } by unfold bareM; rw [if_neg (by omega), if_neg (by omega), if_neg (by omega), if_neg (by omega), if_neg (by omega)]]
  exact ⟨h.size, (h.on (by omega) k0).trans hM.h0, (h.on (by omega) k1).trans hM.h1, (h.off (by omega) k2).trans zero_of.h2, (h.off (by omega) k3).trans zero_of.h3, (h.off (by omega) k4).trans zero_of.h4, fun i hi => (h.off (by omega) (k5 i hi)).trans (zero_of.h5 i hi), fun i hi => (h.off (by omega) (k15 i hi)).trans (zero_of.h15 i hi), zero_of.l15,
    (h.off (by omega) k47).trans zero_of.h47, (h.off (by omega) k48).trans zero_of.h48, (h.off (by omega) k49).trans zero_of.h49, (h.off (by omega) k50).trans zero_of.h50, (h.off (by omega) k51).trans zero_of.h51, (h.off (by omega) k52).trans zero_of.h52⟩

theorem ext_one {C : Array Value} (h : ∀ v ∈ C.toList, v.oneCell' = true) (o n : Nat) : ∀ v ∈ (C.extract o n).toList, v.oneCell' = true := by
  intro v hv
  rw [Array.toList_extract] at hv
  exact h v (by simp only [List.extract] at hv; exact List.mem_of_mem_drop (List.mem_of_mem_take hv))
structure ClBr (C D : Array Value) (w : World) (mb : Nat) (w' : World) : Prop where
  b : Blk w' w.heap.size C 42
  m : Blk w' mb D 42
  z : Blk w' (w.heap.size + 1) zero53 42
  low : Below w.heap.size w w'
  s : D.size = 53
  hi : w.heap.size + 2 ≤ mb
section
variable {C D : Array Value} {w w' : World} {mb : Nat}
theorem ClBr.drew (h : ClBr C D w mb w') : ClBr C D w mb w'.drew := ⟨h.b.drew, h.m.drew, h.z.drew, h.low.drew, h.s, h.hi⟩
theorem ClBr.cell (h : ClBr C D w mb w') (o : Nat) (v : Value) : ClBr C (D.setIfInBounds o v) w mb (w'.setCell ⟨mb, o, none⟩ v) :=
  have hh := h.hi
  ⟨h.b.other (by show w.heap.size ≠ mb; omega) _, h.m.set o v, h.z.other (by show w.heap.size + 1 ≠ mb; omega) _, h.low.setCell (by show w.heap.size ≤ mb; omega) _, by rw [Array.size_setIfInBounds]; exact h.s, h.hi⟩
theorem ClBr.get (h : ClBr C D w mb w') {o : Nat} (ho : o < 53) : w'.cell? ⟨mb, o, none⟩ = some (D[o]'(by rw [h.s]; exact ho)) := h.m.cell (Array.getElem?_eq_getElem (by rw [h.s]; exact ho))
theorem ClBr.part (h : ClBr C D w mb w') (hC : C.size = 53) {o n : Nat} (ho : o + n ≤ 53) : ClBr C (D.toList.take o ++ (C.extract o (o + n)).toList ++ D.toList.drop (o + (C.extract o (o + n)).size)).toArray w mb (w'.setRow mb (D.toList.take o ++ (C.extract o (o + n)).toList ++ D.toList.drop (o + (C.extract o (o + n)).size)).toArray) :=
  have hh := h.hi
  have hm : Mod (fun x => x = mb) w' (w'.setRow mb (D.toList.take o ++ (C.extract o (o + n)).toList ++ D.toList.drop (o + (C.extract o (o + n)).size)).toArray) := ⟨rfl, rfl, rfl, by simp [World.setRow], fun k _ hk => setRow_other w' mb k _ hk⟩
  have hn : (C.extract o (o + n)).size = n := by simp; omega
  ⟨h.b.mod hm (by show ¬ w.heap.size = mb; omega), setRow_heap w' mb _ _ _ (0, 0) h.m, h.z.mod hm (by show ¬ w.heap.size + 1 = mb; omega), h.low.trans (hm.below h.low.size (by rintro x rfl; omega)), by rw [splice_size _ _ _ (by rw [hn, h.s]; exact ho)]; exact h.s, h.hi⟩
theorem ClBr.store (h : ClBr C D w mb w') (hC : C.size = 53) (h1 : ∀ v ∈ C.toList, v.oneCell' = true) {o n : Nat} (ho : o + n ≤ 53) (ty : TypeId) (hi : (Try.prog.info? ty).map (·.size) = some n) : (storeVar ty ⟨mb, o, none⟩ (.agg (C.extract o (o + n)))).run Try.prog w' = .ok () (w'.setRow mb (D.toList.take o ++ (C.extract o (o + n)).toList ++ D.toList.drop (o + (C.extract o (o + n)).size)).toArray) := by
  have hn : (C.extract o (o + n)).size = n := by simp; omega
  exact run_storeVar_part w' mb o ty D _ _ h.m (by rw [hn, h.s]; exact ho) (ext_one h1 _ _) (by rw [hn]; exact hi)
end
theorem run_i64 {w : World} {p : Addr} {n : Int} (hc : w.cell? p = some (.int .i64 n)) : (loadVar 3 p).run Try.prog w = .ok (.int .i64 n) w := by go_simp
theorem run_u64 {w : World} {p : Addr} {n : Int} (hc : w.cell? p = some (.int .u64 n)) : (loadVar 24 p).run Try.prog w = .ok (.int .u64 n) w := by go_simp
theorem run_slc {w : World} {p : Addr} {q : Option Addr} {n c : Nat} (hc : w.cell? p = some (.slice q n c)) : (loadVar 38 p).run Try.prog w = .ok (.slice q n c) w := by go_simp
theorem run_storeU {ρ : Operand → Value} {o : Oper} {w : World} {x y : Operand} {p : Addr} {n : Int} {u : Value} (ho : o.op = .store 24 x y) (hx : ρ x = .pointer (some p)) (hy : ρ y = .int .u64 n) (hc : w.cell? p = some u) (hf : w.frozen? p = false) :
    (execOp ρ o).run Try.prog w = .ok .skip (w.setCell p (.int .u64 n)) := by
  unfold execOp
  simp only [ho, hx, hy]
  go_simp

set_option maxHeartbeats 2000000 in
set_option maxRecDepth 100000 in
theorem bare1_calls (C : Array Value) (m : MV) (w : World) (hM : MsgOf C m) (hk : m.kind = 1) : Calls Try.prog 47 #[.agg C] w fun e w' => ∃ D, e = .returned (.agg D) ∧ MsgOf D (bareM m) ∧ Below w.heap.size w w' := by
  have hC := hM.size
  have h1C := Lib.hid (msg_one hM)
  go_enter Try.func47, Try.ntmps47
  go_upto_region 1 with fail
  refine wp_world' (fun wx => Blk wx w.heap.size C 42 ∧ Blk wx (w.heap.size + 1) zero53 42 ∧ wx.heap.size = w.heap.size + 2 ∧ Below w.heap.size w wx) ⟨(Blk.new w C _).alloc _, Blk.new' w _ _ _, by simp, ((Below.refl _ _).alloc (Nat.le_refl _) _).alloc (by simp) _⟩ ?_
  rintro w0 ⟨hB, hZ, hz, hb⟩
  have k0 := hB.cell hM.h0
  have k1 := hB.cell hM.h1
  have hru := Lib.hid (run_two m.kind m.round)
  have hs0 := Lib.hid (show zero53.size = ((zero53.setIfInBounds 0 (.int .i64 m.kind)).setIfInBounds 1 (.int .i64 m.round)).size by simp)
  have hs1 := Lib.hid (two_one m.kind m.round)
  have hs2 := Lib.hid (msg_size ((zero53.setIfInBounds 0 (.int .i64 m.kind)).setIfInBounds 1 (.int .i64 m.round)) (by simp; rfl))
  have hmix := Lib.hid (((mix_zero C).set (by omega) hM.h0).set (by omega) hM.h1)
  generalize (zero53.setIfInBounds 0 (.int .i64 m.kind)).setIfInBounds 1 (.int .i64 m.round) = M0 at hs0 hs1 hs2 hru hmix
  have hB0 := Lib.hid hB
  have hZ0 := Lib.hid hZ
  have hMM := Lib.hid hM
  have hz' := Lib.hid hz
  clear hB hZ hM hz
  rw [hk] at k0 hru
  replace hk := Lib.hid hk
  go_upto_region 2 with (first | (refine wpList_build2_v rfl 42 0 1 _ _ rfl (.int .i64 1) (.int .i64 m.round) rfl rfl (.agg M0) (hru.out _) ?_) | (refine wpList_store_new rfl 42 _ _ rfl rfl rfl _ M0 _ rfl (by exact hs0.out) hs1.out hs2.out ?_))
  have hD0 : ClBr C M0 w w0.heap.size (w0.alloc (.cells M0 42)) := ⟨hB0.out.alloc _, Blk.new _ _ _, hZ0.out.alloc _, hb.alloc hb.size _, hs0.out.symm, by have := hz'.out; omega⟩
  have k2 := hD0.b.cell hMM.out.h0
  rw [hk.out] at k2
  refine wp_world' (fun wx => ClBr C M0 w w0.heap.size wx ∧ wx.cell? ⟨w.heap.size, 0, none⟩ = some (.int .i64 1)) ⟨hD0, k2⟩ ?_
  rintro w1 ⟨hD1, k3⟩
  generalize w0.heap.size = mb at *
  clear k0 k1 hru hs0 hs1 hs2 hB0 hZ0 hz' hb hD0 k2
  go_upto_region 4 with fail
  obtain ⟨M1, hM1⟩ : ∃ X, (M0.setIfInBounds 3 (.int .i64 m.req)) = X := ⟨_, rfl⟩
  obtain ⟨M2, hM2⟩ : ∃ X, (M1.setIfInBounds 4 (.int .i64 m.reserve)) = X := ⟨_, rfl⟩
  obtain ⟨M3, hM3⟩ : ∃ X, (M2.toList.take 5 ++ (C.extract 5 (5 + 10)).toList ++ M2.toList.drop (5 + (C.extract 5 (5 + 10)).size)).toArray = X := ⟨_, rfl⟩
  refine wp_region_puts [7, 9, 11] [(13, .pointer (some ⟨w.heap.size, 3, none⟩)), (14, .int .i64 m.req), (15, .pointer (some ⟨w.heap.size, 4, none⟩)), (16, .int .i64 m.reserve), (17, .pointer (some ⟨w.heap.size, 5, none⟩)), (18, .agg (C.extract 5 (5 + 10))), (19, .pointer (some ⟨mb, 3, none⟩)), (20, .pointer (some ⟨mb, 4, none⟩)), (21, .pointer (some ⟨mb, 5, none⟩))] (fun k wx => ClBr C (if k = 0 then M0 else if k = 1 then M1 else if k = 2 then M2 else M3) w mb wx) (by kernel_rfl) (by kernel_rfl) (by kernel_rfl) (by kernel_rfl) (by kernel_rfl) hD1.drew ?_ ?_
  · intro aF hAF
    have E1 : aF.eval (.tmp 1) = .pointer (some ⟨w.heap.size, 0, none⟩) := by rw [← hAF]; kernel_rfl
    have E3 : aF.eval (.tmp 3) = .pointer (some ⟨mb, 0, none⟩) := by rw [← hAF]; kernel_rfl
    have T13 : aF.tmps[13]? = some (.pointer (some ⟨w.heap.size, 3, none⟩)) := by rw [← hAF]; kernel_rfl
    have E13 : aF.eval (.tmp 13) = .pointer (some ⟨w.heap.size, 3, none⟩) := by rw [← hAF]; kernel_rfl
    have T14 : aF.tmps[14]? = some (.int .i64 m.req) := by rw [← hAF]; kernel_rfl
    have E14 : aF.eval (.tmp 14) = .int .i64 m.req := by rw [← hAF]; kernel_rfl
    have T15 : aF.tmps[15]? = some (.pointer (some ⟨w.heap.size, 4, none⟩)) := by rw [← hAF]; kernel_rfl
    have E15 : aF.eval (.tmp 15) = .pointer (some ⟨w.heap.size, 4, none⟩) := by rw [← hAF]; kernel_rfl
    have T16 : aF.tmps[16]? = some (.int .i64 m.reserve) := by rw [← hAF]; kernel_rfl
    have E16 : aF.eval (.tmp 16) = .int .i64 m.reserve := by rw [← hAF]; kernel_rfl
    have T17 : aF.tmps[17]? = some (.pointer (some ⟨w.heap.size, 5, none⟩)) := by rw [← hAF]; kernel_rfl
    have E17 : aF.eval (.tmp 17) = .pointer (some ⟨w.heap.size, 5, none⟩) := by rw [← hAF]; kernel_rfl
    have T18 : aF.tmps[18]? = some (.agg (C.extract 5 (5 + 10))) := by rw [← hAF]; kernel_rfl
    have E18 : aF.eval (.tmp 18) = .agg (C.extract 5 (5 + 10)) := by rw [← hAF]; kernel_rfl
    have T19 : aF.tmps[19]? = some (.pointer (some ⟨mb, 3, none⟩)) := by rw [← hAF]; kernel_rfl
    have E19 : aF.eval (.tmp 19) = .pointer (some ⟨mb, 3, none⟩) := by rw [← hAF]; kernel_rfl
    have T20 : aF.tmps[20]? = some (.pointer (some ⟨mb, 4, none⟩)) := by rw [← hAF]; kernel_rfl
    have E20 : aF.eval (.tmp 20) = .pointer (some ⟨mb, 4, none⟩) := by rw [← hAF]; kernel_rfl
    have T21 : aF.tmps[21]? = some (.pointer (some ⟨mb, 5, none⟩)) := by rw [← hAF]; kernel_rfl
    have E21 : aF.eval (.tmp 21) = .pointer (some ⟨mb, 5, none⟩) := by rw [← hAF]; kernel_rfl
    clear hAF
    refine ⟨?_, ?_, ?_, ?_, ?_, ?_, ?_, ?_, ?_, ?_, ?_, ?_, trivial⟩
    · exact opOk_quiet _ (by intro d hd _; cases hd; exact T13) rfl (by decide) fun k w' hc => sv (run_fld 3 3 rfl E1 (fun w => by kernel_rfl)) hc
    · exact opOk_quiet _ (by intro d hd _; cases hd; exact T14) rfl (by decide) fun k w' hc => sv (run_load1 rfl E13 (run_i64 (hc.b.cell hMM.out.h3))) hc
    · exact opOk_quiet _ (by intro d hd _; cases hd; exact T15) rfl (by decide) fun k w' hc => sv (run_fld 4 4 rfl E1 (fun w => by kernel_rfl)) hc
    · exact opOk_quiet _ (by intro d hd _; cases hd; exact T16) rfl (by decide) fun k w' hc => sv (run_load1 rfl E15 (run_i64 (hc.b.cell hMM.out.h4))) hc
    · exact opOk_quiet _ (by intro d hd _; cases hd; exact T17) rfl (by decide) fun k w' hc => sv (run_fld 5 5 rfl E1 (fun w => by kernel_rfl)) hc
    · exact opOk_quiet _ (by intro d hd _; cases hd; exact T18) rfl (by decide) fun k w' hc => sv (run_load1 rfl E17 (load_part w' _ C _ hc.b 5 10 (by omega) 35 _ Try.underlying35 rfl (by kernel_rfl))) hc
    · exact opOk_quiet _ (by intro d hd _; cases hd; exact T19) rfl (by decide) fun k w' hc => sv (run_fld 3 3 rfl E3 (fun w => by kernel_rfl)) hc
    · exact opOk_chain 0 undef (by intro d hd; cases hd) rfl rfl (by decide) fun w' hc => by
        have hc : ClBr C M0 w mb w' := hc
        exact ss (run_store1 rfl E19 E14 (hc.get (by omega)) (hc.m.froz _)) (by show ClBr C M1 w mb _; rw [← hM1]; exact hc.cell _ _)
    · exact opOk_quiet _ (by intro d hd _; cases hd; exact T20) rfl (by decide) fun k w' hc => sv (run_fld 4 4 rfl E3 (fun w => by kernel_rfl)) hc
    · exact opOk_chain 1 undef (by intro d hd; cases hd) rfl rfl (by decide) fun w' hc => by
        have hc : ClBr C M1 w mb w' := hc
        exact ss (run_store1 rfl E20 E16 (hc.get (by omega)) (hc.m.froz _)) (by show ClBr C M2 w mb _; rw [← hM2]; exact hc.cell _ _)
    · exact opOk_quiet _ (by intro d hd _; cases hd; exact T21) rfl (by decide) fun k w' hc => sv (run_fld 5 5 rfl E3 (fun w => by kernel_rfl)) hc
    · exact opOk_chain 2 undef (by intro d hd; cases hd) rfl rfl (by decide) fun w' hc => by
        have hc : ClBr C M2 w mb w' := hc
        exact ss (run_storeP rfl E21 E18 (hc.store hC h1C.out (by omega) 35 (by kernel_rfl))) (by show ClBr C M3 w mb _; rw [← hM3]; exact hc.part hC (by omega))
  · intro w2 hc
    simp only [putAll, List.foldl_cons, List.foldl_nil, Act.put, List.setIfInBounds_toArray, List.set_cons_succ, List.set_cons_zero]
    have hc : ClBr C M3 w mb w2 := hc
    have hof : MsgOf M3 (bareM m) := by
      have hx := (((hmix.out.set (by omega) hMM.out.h3).set (by omega) hMM.out.h4).part hC (o := 5) (n := 10) (by omega))
      rw [hM1, hM2, hM3] at hx
      exact mix_of1 hx hMM.out hk.out (by decide) (by decide) (by decide) (by decide) (by decide) (by decide) (by decide) (by decide) (by decide) (by decide) (by decide) (by decide) (by decide)
    go_upto_region 13 with fail
    have HZ := Lib.hid hc.z
    have hone := Lib.hid (msg_one hof)
    have hsz := Lib.hid (msg_size _ hof.size)
    have hzs := Lib.hid (show zero53.size = M3.size from hof.size.symm)
    have hld := Lib.hid (run_load_row' (P := Try.prog) w2 mb 42 _ 42 _ hc.m Try.underlying42 rfl (msg_size _ hof.size))
    have Hof := Lib.hid hof
    have hlow := hc.low
    clear hc hof hD1 k3
    go_wp2_with (first | (refine wpList_load_v rfl 42 _ rfl ⟨mb, 0, none⟩ rfl _ hld.out ?_) | (refine wpList_store_row2 rfl 42 _ _ rfl rfl (w.heap.size + 1) rfl zero53 M3 42 HZ.out rfl (by exact hzs.out) hone.out hsz.out ?_; intro wz hBz hmz))
    (try simp only [Exit.inBlock, Exit.then])
    exact bodyPost_ret (results_cell_row rfl _ _ (w.heap.size + 1) _ _ _ _ rfl hBz Try.underlying42 rfl hsz.out) rfl ⟨M3, rfl, Hof.out, hlow.trans (hmz.below hlow.size (fun _ h => by rw [h]; omega))⟩

set_option maxHeartbeats 2000000 in
set_option maxRecDepth 100000 in
theorem bare2_calls (C : Array Value) (m : MV) (w : World) (hM : MsgOf C m) (hk : m.kind = 2) : Calls Try.prog 47 #[.agg C] w fun e w' => ∃ D, e = .returned (.agg D) ∧ MsgOf D (bareM m) ∧ Below w.heap.size w w' := by
  have hC := hM.size
  have h1C := Lib.hid (msg_one hM)
  go_enter Try.func47, Try.ntmps47
  go_upto_region 1 with fail
  refine wp_world' (fun wx => Blk wx w.heap.size C 42 ∧ Blk wx (w.heap.size + 1) zero53 42 ∧ wx.heap.size = w.heap.size + 2 ∧ Below w.heap.size w wx) ⟨(Blk.new w C _).alloc _, Blk.new' w _ _ _, by simp, ((Below.refl _ _).alloc (Nat.le_refl _) _).alloc (by simp) _⟩ ?_
  rintro w0 ⟨hB, hZ, hz, hb⟩
  have k0 := hB.cell hM.h0
  have k1 := hB.cell hM.h1
  have hru := Lib.hid (run_two m.kind m.round)
  have hs0 := Lib.hid (show zero53.size = ((zero53.setIfInBounds 0 (.int .i64 m.kind)).setIfInBounds 1 (.int .i64 m.round)).size by simp)
  have hs1 := Lib.hid (two_one m.kind m.round)
  have hs2 := Lib.hid (msg_size ((zero53.setIfInBounds 0 (.int .i64 m.kind)).setIfInBounds 1 (.int .i64 m.round)) (by simp; rfl))
  have hmix := Lib.hid (((mix_zero C).set (by omega) hM.h0).set (by omega) hM.h1)
  generalize (zero53.setIfInBounds 0 (.int .i64 m.kind)).setIfInBounds 1 (.int .i64 m.round) = M0 at hs0 hs1 hs2 hru hmix
  have hB0 := Lib.hid hB
  have hZ0 := Lib.hid hZ
  have hMM := Lib.hid hM
  have hz' := Lib.hid hz
  clear hB hZ hM hz
  rw [hk] at k0 hru
  replace hk := Lib.hid hk
  go_upto_region 2 with (first | (refine wpList_build2_v rfl 42 0 1 _ _ rfl (.int .i64 2) (.int .i64 m.round) rfl rfl (.agg M0) (hru.out _) ?_) | (refine wpList_store_new rfl 42 _ _ rfl rfl rfl _ M0 _ rfl (by exact hs0.out) hs1.out hs2.out ?_))
  have hD0 : ClBr C M0 w w0.heap.size (w0.alloc (.cells M0 42)) := ⟨hB0.out.alloc _, Blk.new _ _ _, hZ0.out.alloc _, hb.alloc hb.size _, hs0.out.symm, by have := hz'.out; omega⟩
  have k2 := hD0.b.cell hMM.out.h0
  rw [hk.out] at k2
  refine wp_world' (fun wx => ClBr C M0 w w0.heap.size wx ∧ wx.cell? ⟨w.heap.size, 0, none⟩ = some (.int .i64 2)) ⟨hD0, k2⟩ ?_
  rintro w1 ⟨hD1, k3⟩
  generalize w0.heap.size = mb at *
  clear k0 k1 hru hs0 hs1 hs2 hB0 hZ0 hz' hb hD0 k2
  go_upto_region 6 with fail
  obtain ⟨M1, hM1⟩ : ∃ X, (M0.setIfInBounds 2 (.int .i64 m.carrier)) = X := ⟨_, rfl⟩
  obtain ⟨M2, hM2⟩ : ∃ X, (M1.toList.take 15 ++ (C.extract 15 (15 + 32)).toList ++ M1.toList.drop (15 + (C.extract 15 (15 + 32)).size)).toArray = X := ⟨_, rfl⟩
  refine wp_region_puts [5, 7] [(24, .pointer (some ⟨w.heap.size, 2, none⟩)), (25, .int .i64 m.carrier), (26, .pointer (some ⟨w.heap.size, 15, none⟩)), (27, .agg (C.extract 15 (15 + 32))), (28, .pointer (some ⟨mb, 2, none⟩)), (29, .pointer (some ⟨mb, 15, none⟩))] (fun k wx => ClBr C (if k = 0 then M0 else if k = 1 then M1 else M2) w mb wx) (by kernel_rfl) (by kernel_rfl) (by kernel_rfl) (by kernel_rfl) (by kernel_rfl) hD1.drew ?_ ?_
  · intro aF hAF
    have E1 : aF.eval (.tmp 1) = .pointer (some ⟨w.heap.size, 0, none⟩) := by rw [← hAF]; kernel_rfl
    have E3 : aF.eval (.tmp 3) = .pointer (some ⟨mb, 0, none⟩) := by rw [← hAF]; kernel_rfl
    have T24 : aF.tmps[24]? = some (.pointer (some ⟨w.heap.size, 2, none⟩)) := by rw [← hAF]; kernel_rfl
    have E24 : aF.eval (.tmp 24) = .pointer (some ⟨w.heap.size, 2, none⟩) := by rw [← hAF]; kernel_rfl
    have T25 : aF.tmps[25]? = some (.int .i64 m.carrier) := by rw [← hAF]; kernel_rfl
    have E25 : aF.eval (.tmp 25) = .int .i64 m.carrier := by rw [← hAF]; kernel_rfl
    have T26 : aF.tmps[26]? = some (.pointer (some ⟨w.heap.size, 15, none⟩)) := by rw [← hAF]; kernel_rfl
    have E26 : aF.eval (.tmp 26) = .pointer (some ⟨w.heap.size, 15, none⟩) := by rw [← hAF]; kernel_rfl
    have T27 : aF.tmps[27]? = some (.agg (C.extract 15 (15 + 32))) := by rw [← hAF]; kernel_rfl
    have E27 : aF.eval (.tmp 27) = .agg (C.extract 15 (15 + 32)) := by rw [← hAF]; kernel_rfl
    have T28 : aF.tmps[28]? = some (.pointer (some ⟨mb, 2, none⟩)) := by rw [← hAF]; kernel_rfl
    have E28 : aF.eval (.tmp 28) = .pointer (some ⟨mb, 2, none⟩) := by rw [← hAF]; kernel_rfl
    have T29 : aF.tmps[29]? = some (.pointer (some ⟨mb, 15, none⟩)) := by rw [← hAF]; kernel_rfl
    have E29 : aF.eval (.tmp 29) = .pointer (some ⟨mb, 15, none⟩) := by rw [← hAF]; kernel_rfl
    clear hAF
    refine ⟨?_, ?_, ?_, ?_, ?_, ?_, ?_, ?_, trivial⟩
    · exact opOk_quiet _ (by intro d hd _; cases hd; exact T24) rfl (by decide) fun k w' hc => sv (run_fld 2 2 rfl E1 (fun w => by kernel_rfl)) hc
    · exact opOk_quiet _ (by intro d hd _; cases hd; exact T25) rfl (by decide) fun k w' hc => sv (run_load1 rfl E24 (run_i64 (hc.b.cell hMM.out.h2))) hc
    · exact opOk_quiet _ (by intro d hd _; cases hd; exact T26) rfl (by decide) fun k w' hc => sv (run_fld 6 15 rfl E1 (fun w => by kernel_rfl)) hc
    · exact opOk_quiet _ (by intro d hd _; cases hd; exact T27) rfl (by decide) fun k w' hc => sv (run_load1 rfl E26 (load_part w' _ C _ hc.b 15 32 (by omega) 37 _ Try.underlying37 rfl (by kernel_rfl))) hc
    · exact opOk_quiet _ (by intro d hd _; cases hd; exact T28) rfl (by decide) fun k w' hc => sv (run_fld 2 2 rfl E3 (fun w => by kernel_rfl)) hc
    · exact opOk_chain 0 undef (by intro d hd; cases hd) rfl rfl (by decide) fun w' hc => by
        have hc : ClBr C M0 w mb w' := hc
        exact ss (run_store1 rfl E28 E25 (hc.get (by omega)) (hc.m.froz _)) (by show ClBr C M1 w mb _; rw [← hM1]; exact hc.cell _ _)
    · exact opOk_quiet _ (by intro d hd _; cases hd; exact T29) rfl (by decide) fun k w' hc => sv (run_fld 6 15 rfl E3 (fun w => by kernel_rfl)) hc
    · exact opOk_chain 1 undef (by intro d hd; cases hd) rfl rfl (by decide) fun w' hc => by
        have hc : ClBr C M1 w mb w' := hc
        exact ss (run_storeP rfl E29 E27 (hc.store hC h1C.out (by omega) 37 (by kernel_rfl))) (by show ClBr C M2 w mb _; rw [← hM2]; exact hc.part hC (by omega))
  · intro w2 hc
    simp only [putAll, List.foldl_cons, List.foldl_nil, Act.put, List.setIfInBounds_toArray, List.set_cons_succ, List.set_cons_zero]
    have hc : ClBr C M2 w mb w2 := hc
    have hof : MsgOf M2 (bareM m) := by
      have hx := ((hmix.out.set (by omega) hMM.out.h2).part hC (o := 15) (n := 32) (by omega))
      rw [hM1, hM2] at hx
      exact mix_of2 hx hMM.out hk.out (by decide) (by decide) (by decide) (by decide) (by decide) (by decide) (by decide) (by decide) (by decide) (by decide) (by decide) (by decide) (by decide)
    go_upto_region 13 with fail
    have HZ := Lib.hid hc.z
    have hone := Lib.hid (msg_one hof)
    have hsz := Lib.hid (msg_size _ hof.size)
    have hzs := Lib.hid (show zero53.size = M2.size from hof.size.symm)
    have hld := Lib.hid (run_load_row' (P := Try.prog) w2 mb 42 _ 42 _ hc.m Try.underlying42 rfl (msg_size _ hof.size))
    have Hof := Lib.hid hof
    have hlow := hc.low
    clear hc hof hD1 k3
    go_wp2_with (first | (refine wpList_load_v rfl 42 _ rfl ⟨mb, 0, none⟩ rfl _ hld.out ?_) | (refine wpList_store_row2 rfl 42 _ _ rfl rfl (w.heap.size + 1) rfl zero53 M2 42 HZ.out rfl (by exact hzs.out) hone.out hsz.out ?_; intro wz hBz hmz))
    (try simp only [Exit.inBlock, Exit.then])
    exact bodyPost_ret (results_cell_row rfl _ _ (w.heap.size + 1) _ _ _ _ rfl hBz Try.underlying42 rfl hsz.out) rfl ⟨M2, rfl, Hof.out, hlow.trans (hmz.below hlow.size (fun _ h => by rw [h]; omega))⟩

set_option maxHeartbeats 2000000 in
set_option maxRecDepth 100000 in
theorem bare3_calls (C : Array Value) (m : MV) (w : World) (hM : MsgOf C m) (hk : m.kind = 3) : Calls Try.prog 47 #[.agg C] w fun e w' => ∃ D, e = .returned (.agg D) ∧ MsgOf D (bareM m) ∧ Below w.heap.size w w' := by
  have hC := hM.size
  have h1C := Lib.hid (msg_one hM)
  go_enter Try.func47, Try.ntmps47
  go_upto_region 1 with fail
  refine wp_world' (fun wx => Blk wx w.heap.size C 42 ∧ Blk wx (w.heap.size + 1) zero53 42 ∧ wx.heap.size = w.heap.size + 2 ∧ Below w.heap.size w wx) ⟨(Blk.new w C _).alloc _, Blk.new' w _ _ _, by simp, ((Below.refl _ _).alloc (Nat.le_refl _) _).alloc (by simp) _⟩ ?_
  rintro w0 ⟨hB, hZ, hz, hb⟩
  have k0 := hB.cell hM.h0
  have k1 := hB.cell hM.h1
  have hru := Lib.hid (run_two m.kind m.round)
  have hs0 := Lib.hid (show zero53.size = ((zero53.setIfInBounds 0 (.int .i64 m.kind)).setIfInBounds 1 (.int .i64 m.round)).size by simp)
  have hs1 := Lib.hid (two_one m.kind m.round)
  have hs2 := Lib.hid (msg_size ((zero53.setIfInBounds 0 (.int .i64 m.kind)).setIfInBounds 1 (.int .i64 m.round)) (by simp; rfl))
  have hmix := Lib.hid (((mix_zero C).set (by omega) hM.h0).set (by omega) hM.h1)
  generalize (zero53.setIfInBounds 0 (.int .i64 m.kind)).setIfInBounds 1 (.int .i64 m.round) = M0 at hs0 hs1 hs2 hru hmix
  have hB0 := Lib.hid hB
  have hZ0 := Lib.hid hZ
  have hMM := Lib.hid hM
  have hz' := Lib.hid hz
  clear hB hZ hM hz
  rw [hk] at k0 hru
  replace hk := Lib.hid hk
  go_upto_region 2 with (first | (refine wpList_build2_v rfl 42 0 1 _ _ rfl (.int .i64 3) (.int .i64 m.round) rfl rfl (.agg M0) (hru.out _) ?_) | (refine wpList_store_new rfl 42 _ _ rfl rfl rfl _ M0 _ rfl (by exact hs0.out) hs1.out hs2.out ?_))
  have hD0 : ClBr C M0 w w0.heap.size (w0.alloc (.cells M0 42)) := ⟨hB0.out.alloc _, Blk.new _ _ _, hZ0.out.alloc _, hb.alloc hb.size _, hs0.out.symm, by have := hz'.out; omega⟩
  have k2 := hD0.b.cell hMM.out.h0
  rw [hk.out] at k2
  refine wp_world' (fun wx => ClBr C M0 w w0.heap.size wx ∧ wx.cell? ⟨w.heap.size, 0, none⟩ = some (.int .i64 3)) ⟨hD0, k2⟩ ?_
  rintro w1 ⟨hD1, k3⟩
  generalize w0.heap.size = mb at *
  clear k0 k1 hru hs0 hs1 hs2 hB0 hZ0 hz' hb hD0 k2
  go_upto_region 8 with fail
  obtain ⟨M1, hM1⟩ : ∃ X, (M0.setIfInBounds 47 (.slice m.p m.ms.length m.cap)) = X := ⟨_, rfl⟩
  refine wp_region_seq [(32, .pointer (some ⟨w.heap.size, 47, none⟩)), (33, .slice m.p m.ms.length m.cap), (34, .pointer (some ⟨mb, 47, none⟩))] (fun k wx => ClBr C (if k ≤ 3 then M0 else M1) w mb wx) (by kernel_rfl) (by kernel_rfl) (by kernel_rfl) hD1 ?_ ?_
  · intro aF hAF
    have E1 : aF.eval (.tmp 1) = .pointer (some ⟨w.heap.size, 0, none⟩) := by rw [hAF]; kernel_rfl
    have E3 : aF.eval (.tmp 3) = .pointer (some ⟨mb, 0, none⟩) := by rw [hAF]; kernel_rfl
    have T32 : aF.tmps[32]? = some (.pointer (some ⟨w.heap.size, 47, none⟩)) := by rw [hAF]; kernel_rfl
    have E32 : aF.eval (.tmp 32) = .pointer (some ⟨w.heap.size, 47, none⟩) := by rw [hAF]; kernel_rfl
    have T33 : aF.tmps[33]? = some (.slice m.p m.ms.length m.cap) := by rw [hAF]; kernel_rfl
    have E33 : aF.eval (.tmp 33) = .slice m.p m.ms.length m.cap := by rw [hAF]; kernel_rfl
    have T34 : aF.tmps[34]? = some (.pointer (some ⟨mb, 47, none⟩)) := by rw [hAF]; kernel_rfl
    have E34 : aF.eval (.tmp 34) = .pointer (some ⟨mb, 47, none⟩) := by rw [hAF]; kernel_rfl
    clear hAF
    refine ⟨?_, ?_, ?_, ?_, trivial⟩
    · exact seqOk_op _ (by intro d hd _; cases hd; exact T32) rfl fun w' hc => sv (run_fld 7 47 rfl E1 (fun w => by kernel_rfl)) hc
    · exact seqOk_op _ (by intro d hd _; cases hd; exact T33) rfl fun w' hc => sv (run_load1 rfl E32 (run_slc (hc.b.cell hMM.out.h47))) hc
    · exact seqOk_op _ (by intro d hd _; cases hd; exact T34) rfl fun w' hc => sv (run_fld 7 47 rfl E3 (fun w => by kernel_rfl)) hc
    · exact seqOk_op undef (by intro d hd; cases hd) rfl fun w' hc => by
        have hc : ClBr C M0 w mb w' := hc
        exact ss (run_store38 rfl E34 E33 (hc.get (by omega)) (hc.m.froz _)) (by show ClBr C M1 w mb _; rw [← hM1]; exact hc.cell _ _)
  · intro w2 hc
    simp only [putAll, List.foldl_cons, List.foldl_nil, Act.put, List.setIfInBounds_toArray, List.set_cons_succ, List.set_cons_zero]
    have hc : ClBr C M1 w mb w2 := hc
    have hof : MsgOf M1 (bareM m) := by
      have hx := (hmix.out.set (by omega) hMM.out.h47)
      rw [hM1] at hx
      exact mix_of3 hx hMM.out hk.out (by decide) (by decide) (by decide) (by decide) (by decide) (by decide) (by decide) (by decide) (by decide) (by decide) (by decide) (by decide) (by decide)
    go_upto_region 13 with fail
    have HZ := Lib.hid hc.z
    have hone := Lib.hid (msg_one hof)
    have hsz := Lib.hid (msg_size _ hof.size)
    have hzs := Lib.hid (show zero53.size = M1.size from hof.size.symm)
    have hld := Lib.hid (run_load_row' (P := Try.prog) w2 mb 42 _ 42 _ hc.m Try.underlying42 rfl (msg_size _ hof.size))
    have Hof := Lib.hid hof
    have hlow := hc.low
    clear hc hof hD1 k3
    go_wp2_with (first | (refine wpList_load_v rfl 42 _ rfl ⟨mb, 0, none⟩ rfl _ hld.out ?_) | (refine wpList_store_row2 rfl 42 _ _ rfl rfl (w.heap.size + 1) rfl zero53 M1 42 HZ.out rfl (by exact hzs.out) hone.out hsz.out ?_; intro wz hBz hmz))
    (try simp only [Exit.inBlock, Exit.then])
    exact bodyPost_ret (results_cell_row rfl _ _ (w.heap.size + 1) _ _ _ _ rfl hBz Try.underlying42 rfl hsz.out) rfl ⟨M1, rfl, Hof.out, hlow.trans (hmz.below hlow.size (fun _ h => by rw [h]; omega))⟩

set_option maxHeartbeats 2000000 in
set_option maxRecDepth 100000 in
theorem bare4_calls (C : Array Value) (m : MV) (w : World) (hM : MsgOf C m) (hk : m.kind = 4) : Calls Try.prog 47 #[.agg C] w fun e w' => ∃ D, e = .returned (.agg D) ∧ MsgOf D (bareM m) ∧ Below w.heap.size w w' := by
  have hC := hM.size
  have h1C := Lib.hid (msg_one hM)
  go_enter Try.func47, Try.ntmps47
  go_upto_region 1 with fail
  refine wp_world' (fun wx => Blk wx w.heap.size C 42 ∧ Blk wx (w.heap.size + 1) zero53 42 ∧ wx.heap.size = w.heap.size + 2 ∧ Below w.heap.size w wx) ⟨(Blk.new w C _).alloc _, Blk.new' w _ _ _, by simp, ((Below.refl _ _).alloc (Nat.le_refl _) _).alloc (by simp) _⟩ ?_
  rintro w0 ⟨hB, hZ, hz, hb⟩
  have k0 := hB.cell hM.h0
  have k1 := hB.cell hM.h1
  have hru := Lib.hid (run_two m.kind m.round)
  have hs0 := Lib.hid (show zero53.size = ((zero53.setIfInBounds 0 (.int .i64 m.kind)).setIfInBounds 1 (.int .i64 m.round)).size by simp)
  have hs1 := Lib.hid (two_one m.kind m.round)
  have hs2 := Lib.hid (msg_size ((zero53.setIfInBounds 0 (.int .i64 m.kind)).setIfInBounds 1 (.int .i64 m.round)) (by simp; rfl))
  have hmix := Lib.hid (((mix_zero C).set (by omega) hM.h0).set (by omega) hM.h1)
  generalize (zero53.setIfInBounds 0 (.int .i64 m.kind)).setIfInBounds 1 (.int .i64 m.round) = M0 at hs0 hs1 hs2 hru hmix
  have hB0 := Lib.hid hB
  have hZ0 := Lib.hid hZ
  have hMM := Lib.hid hM
  have hz' := Lib.hid hz
  clear hB hZ hM hz
  rw [hk] at k0 hru
  replace hk := Lib.hid hk
  go_upto_region 2 with (first | (refine wpList_build2_v rfl 42 0 1 _ _ rfl (.int .i64 4) (.int .i64 m.round) rfl rfl (.agg M0) (hru.out _) ?_) | (refine wpList_store_new rfl 42 _ _ rfl rfl rfl _ M0 _ rfl (by exact hs0.out) hs1.out hs2.out ?_))
  have hD0 : ClBr C M0 w w0.heap.size (w0.alloc (.cells M0 42)) := ⟨hB0.out.alloc _, Blk.new _ _ _, hZ0.out.alloc _, hb.alloc hb.size _, hs0.out.symm, by have := hz'.out; omega⟩
  have k2 := hD0.b.cell hMM.out.h0
  rw [hk.out] at k2
  refine wp_world' (fun wx => ClBr C M0 w w0.heap.size wx ∧ wx.cell? ⟨w.heap.size, 0, none⟩ = some (.int .i64 4)) ⟨hD0, k2⟩ ?_
  rintro w1 ⟨hD1, k3⟩
  generalize w0.heap.size = mb at *
  clear k0 k1 hru hs0 hs1 hs2 hB0 hZ0 hz' hb hD0 k2
  go_upto_region 10 with fail
  obtain ⟨M1, hM1⟩ : ∃ X, (M0.setIfInBounds 2 (.int .i64 m.carrier)) = X := ⟨_, rfl⟩
  obtain ⟨M2, hM2⟩ : ∃ X, (M1.setIfInBounds 48 (.int .u64 m.bid)) = X := ⟨_, rfl⟩
  obtain ⟨M3, hM3⟩ : ∃ X, (M2.setIfInBounds 49 (.int .u64 m.nonce)) = X := ⟨_, rfl⟩
  refine wp_region_puts [7, 9, 11] [(37, .pointer (some ⟨w.heap.size, 2, none⟩)), (38, .int .i64 m.carrier), (39, .pointer (some ⟨w.heap.size, 48, none⟩)), (40, .int .u64 m.bid), (41, .pointer (some ⟨w.heap.size, 49, none⟩)), (42, .int .u64 m.nonce), (43, .pointer (some ⟨mb, 2, none⟩)), (44, .pointer (some ⟨mb, 48, none⟩)), (45, .pointer (some ⟨mb, 49, none⟩))] (fun k wx => ClBr C (if k = 0 then M0 else if k = 1 then M1 else if k = 2 then M2 else M3) w mb wx) (by kernel_rfl) (by kernel_rfl) (by kernel_rfl) (by kernel_rfl) (by kernel_rfl) hD1.drew ?_ ?_
  · intro aF hAF
    have E1 : aF.eval (.tmp 1) = .pointer (some ⟨w.heap.size, 0, none⟩) := by rw [← hAF]; kernel_rfl
    have E3 : aF.eval (.tmp 3) = .pointer (some ⟨mb, 0, none⟩) := by rw [← hAF]; kernel_rfl
    have T37 : aF.tmps[37]? = some (.pointer (some ⟨w.heap.size, 2, none⟩)) := by rw [← hAF]; kernel_rfl
    have E37 : aF.eval (.tmp 37) = .pointer (some ⟨w.heap.size, 2, none⟩) := by rw [← hAF]; kernel_rfl
    have T38 : aF.tmps[38]? = some (.int .i64 m.carrier) := by rw [← hAF]; kernel_rfl
    have E38 : aF.eval (.tmp 38) = .int .i64 m.carrier := by rw [← hAF]; kernel_rfl
    have T39 : aF.tmps[39]? = some (.pointer (some ⟨w.heap.size, 48, none⟩)) := by rw [← hAF]; kernel_rfl
    have E39 : aF.eval (.tmp 39) = .pointer (some ⟨w.heap.size, 48, none⟩) := by rw [← hAF]; kernel_rfl
    have T40 : aF.tmps[40]? = some (.int .u64 m.bid) := by rw [← hAF]; kernel_rfl
    have E40 : aF.eval (.tmp 40) = .int .u64 m.bid := by rw [← hAF]; kernel_rfl
    have T41 : aF.tmps[41]? = some (.pointer (some ⟨w.heap.size, 49, none⟩)) := by rw [← hAF]; kernel_rfl
    have E41 : aF.eval (.tmp 41) = .pointer (some ⟨w.heap.size, 49, none⟩) := by rw [← hAF]; kernel_rfl
    have T42 : aF.tmps[42]? = some (.int .u64 m.nonce) := by rw [← hAF]; kernel_rfl
    have E42 : aF.eval (.tmp 42) = .int .u64 m.nonce := by rw [← hAF]; kernel_rfl
    have T43 : aF.tmps[43]? = some (.pointer (some ⟨mb, 2, none⟩)) := by rw [← hAF]; kernel_rfl
    have E43 : aF.eval (.tmp 43) = .pointer (some ⟨mb, 2, none⟩) := by rw [← hAF]; kernel_rfl
    have T44 : aF.tmps[44]? = some (.pointer (some ⟨mb, 48, none⟩)) := by rw [← hAF]; kernel_rfl
    have E44 : aF.eval (.tmp 44) = .pointer (some ⟨mb, 48, none⟩) := by rw [← hAF]; kernel_rfl
    have T45 : aF.tmps[45]? = some (.pointer (some ⟨mb, 49, none⟩)) := by rw [← hAF]; kernel_rfl
    have E45 : aF.eval (.tmp 45) = .pointer (some ⟨mb, 49, none⟩) := by rw [← hAF]; kernel_rfl
    clear hAF
    refine ⟨?_, ?_, ?_, ?_, ?_, ?_, ?_, ?_, ?_, ?_, ?_, ?_, trivial⟩
    · exact opOk_quiet _ (by intro d hd _; cases hd; exact T37) rfl (by decide) fun k w' hc => sv (run_fld 2 2 rfl E1 (fun w => by kernel_rfl)) hc
    · exact opOk_quiet _ (by intro d hd _; cases hd; exact T38) rfl (by decide) fun k w' hc => sv (run_load1 rfl E37 (run_i64 (hc.b.cell hMM.out.h2))) hc
    · exact opOk_quiet _ (by intro d hd _; cases hd; exact T39) rfl (by decide) fun k w' hc => sv (run_fld 8 48 rfl E1 (fun w => by kernel_rfl)) hc
    · exact opOk_quiet _ (by intro d hd _; cases hd; exact T40) rfl (by decide) fun k w' hc => sv (run_load1 rfl E39 (run_u64 (hc.b.cell hMM.out.h48))) hc
    · exact opOk_quiet _ (by intro d hd _; cases hd; exact T41) rfl (by decide) fun k w' hc => sv (run_fld 9 49 rfl E1 (fun w => by kernel_rfl)) hc
    · exact opOk_quiet _ (by intro d hd _; cases hd; exact T42) rfl (by decide) fun k w' hc => sv (run_load1 rfl E41 (run_u64 (hc.b.cell hMM.out.h49))) hc
    · exact opOk_quiet _ (by intro d hd _; cases hd; exact T43) rfl (by decide) fun k w' hc => sv (run_fld 2 2 rfl E3 (fun w => by kernel_rfl)) hc
    · exact opOk_chain 0 undef (by intro d hd; cases hd) rfl rfl (by decide) fun w' hc => by
        have hc : ClBr C M0 w mb w' := hc
        exact ss (run_store1 rfl E43 E38 (hc.get (by omega)) (hc.m.froz _)) (by show ClBr C M1 w mb _; rw [← hM1]; exact hc.cell _ _)
    · exact opOk_quiet _ (by intro d hd _; cases hd; exact T44) rfl (by decide) fun k w' hc => sv (run_fld 8 48 rfl E3 (fun w => by kernel_rfl)) hc
    · exact opOk_chain 1 undef (by intro d hd; cases hd) rfl rfl (by decide) fun w' hc => by
        have hc : ClBr C M1 w mb w' := hc
        exact ss (run_storeU rfl E44 E40 (hc.get (by omega)) (hc.m.froz _)) (by show ClBr C M2 w mb _; rw [← hM2]; exact hc.cell _ _)
    · exact opOk_quiet _ (by intro d hd _; cases hd; exact T45) rfl (by decide) fun k w' hc => sv (run_fld 9 49 rfl E3 (fun w => by kernel_rfl)) hc
    · exact opOk_chain 2 undef (by intro d hd; cases hd) rfl rfl (by decide) fun w' hc => by
        have hc : ClBr C M2 w mb w' := hc
        exact ss (run_storeU rfl E45 E42 (hc.get (by omega)) (hc.m.froz _)) (by show ClBr C M3 w mb _; rw [← hM3]; exact hc.cell _ _)
  · intro w2 hc
    simp only [putAll, List.foldl_cons, List.foldl_nil, Act.put, List.setIfInBounds_toArray, List.set_cons_succ, List.set_cons_zero]
    have hc : ClBr C M3 w mb w2 := hc
    have hof : MsgOf M3 (bareM m) := by
      have hx := (((hmix.out.set (by omega) hMM.out.h2).set (by omega) hMM.out.h48).set (by omega) hMM.out.h49)
      rw [hM1, hM2, hM3] at hx
      exact mix_of4 hx hMM.out hk.out (by decide) (by decide) (by decide) (by decide) (by decide) (by decide) (by decide) (by decide) (by decide) (by decide) (by decide) (by decide) (by decide)
    go_upto_region 13 with fail
    have HZ := Lib.hid hc.z
    have hone := Lib.hid (msg_one hof)
    have hsz := Lib.hid (msg_size _ hof.size)
    have hzs := Lib.hid (show zero53.size = M3.size from hof.size.symm)
    have hld := Lib.hid (run_load_row' (P := Try.prog) w2 mb 42 _ 42 _ hc.m Try.underlying42 rfl (msg_size _ hof.size))
    have Hof := Lib.hid hof
    have hlow := hc.low
    clear hc hof hD1 k3
    go_wp2_with (first | (refine wpList_load_v rfl 42 _ rfl ⟨mb, 0, none⟩ rfl _ hld.out ?_) | (refine wpList_store_row2 rfl 42 _ _ rfl rfl (w.heap.size + 1) rfl zero53 M3 42 HZ.out rfl (by exact hzs.out) hone.out hsz.out ?_; intro wz hBz hmz))
    (try simp only [Exit.inBlock, Exit.then])
    exact bodyPost_ret (results_cell_row rfl _ _ (w.heap.size + 1) _ _ _ _ rfl hBz Try.underlying42 rfl hsz.out) rfl ⟨M3, rfl, Hof.out, hlow.trans (hmz.below hlow.size (fun _ h => by rw [h]; omega))⟩

set_option maxHeartbeats 2000000 in
set_option maxRecDepth 100000 in
theorem bare5_calls (C : Array Value) (m : MV) (w : World) (hM : MsgOf C m) (hk : m.kind = 5) : Calls Try.prog 47 #[.agg C] w fun e w' => ∃ D, e = .returned (.agg D) ∧ MsgOf D (bareM m) ∧ Below w.heap.size w w' := by
  have hC := hM.size
  have h1C := Lib.hid (msg_one hM)
  go_enter Try.func47, Try.ntmps47
  go_upto_region 1 with fail
  refine wp_world' (fun wx => Blk wx w.heap.size C 42 ∧ Blk wx (w.heap.size + 1) zero53 42 ∧ wx.heap.size = w.heap.size + 2 ∧ Below w.heap.size w wx) ⟨(Blk.new w C _).alloc _, Blk.new' w _ _ _, by simp, ((Below.refl _ _).alloc (Nat.le_refl _) _).alloc (by simp) _⟩ ?_
  rintro w0 ⟨hB, hZ, hz, hb⟩
  have k0 := hB.cell hM.h0
  have k1 := hB.cell hM.h1
  have hru := Lib.hid (run_two m.kind m.round)
  have hs0 := Lib.hid (show zero53.size = ((zero53.setIfInBounds 0 (.int .i64 m.kind)).setIfInBounds 1 (.int .i64 m.round)).size by simp)
  have hs1 := Lib.hid (two_one m.kind m.round)
  have hs2 := Lib.hid (msg_size ((zero53.setIfInBounds 0 (.int .i64 m.kind)).setIfInBounds 1 (.int .i64 m.round)) (by simp; rfl))
  have hmix := Lib.hid (((mix_zero C).set (by omega) hM.h0).set (by omega) hM.h1)
  generalize (zero53.setIfInBounds 0 (.int .i64 m.kind)).setIfInBounds 1 (.int .i64 m.round) = M0 at hs0 hs1 hs2 hru hmix
  have hB0 := Lib.hid hB
  have hZ0 := Lib.hid hZ
  have hMM := Lib.hid hM
  have hz' := Lib.hid hz
  clear hB hZ hM hz
  rw [hk] at k0 hru
  replace hk := Lib.hid hk
  go_upto_region 2 with (first | (refine wpList_build2_v rfl 42 0 1 _ _ rfl (.int .i64 5) (.int .i64 m.round) rfl rfl (.agg M0) (hru.out _) ?_) | (refine wpList_store_new rfl 42 _ _ rfl rfl rfl _ M0 _ rfl (by exact hs0.out) hs1.out hs2.out ?_))
  have hD0 : ClBr C M0 w w0.heap.size (w0.alloc (.cells M0 42)) := ⟨hB0.out.alloc _, Blk.new _ _ _, hZ0.out.alloc _, hb.alloc hb.size _, hs0.out.symm, by have := hz'.out; omega⟩
  have k2 := hD0.b.cell hMM.out.h0
  rw [hk.out] at k2
  refine wp_world' (fun wx => ClBr C M0 w w0.heap.size wx ∧ wx.cell? ⟨w.heap.size, 0, none⟩ = some (.int .i64 5)) ⟨hD0, k2⟩ ?_
  rintro w1 ⟨hD1, k3⟩
  generalize w0.heap.size = mb at *
  clear k0 k1 hru hs0 hs1 hs2 hB0 hZ0 hz' hb hD0 k2
  go_upto_region 12 with fail
  obtain ⟨M1, hM1⟩ : ∃ X, (M0.toList.take 50 ++ (C.extract 50 (50 + 3)).toList ++ M0.toList.drop (50 + (C.extract 50 (50 + 3)).size)).toArray = X := ⟨_, rfl⟩
  refine wp_region_seq [(48, .pointer (some ⟨w.heap.size, 50, none⟩)), (49, .agg (C.extract 50 (50 + 3))), (50, .pointer (some ⟨mb, 50, none⟩))] (fun k wx => ClBr C (if k ≤ 3 then M0 else M1) w mb wx) (by kernel_rfl) (by kernel_rfl) (by kernel_rfl) hD1 ?_ ?_
  · intro aF hAF
    have E1 : aF.eval (.tmp 1) = .pointer (some ⟨w.heap.size, 0, none⟩) := by rw [hAF]; kernel_rfl
    have E3 : aF.eval (.tmp 3) = .pointer (some ⟨mb, 0, none⟩) := by rw [hAF]; kernel_rfl
    have T48 : aF.tmps[48]? = some (.pointer (some ⟨w.heap.size, 50, none⟩)) := by rw [hAF]; kernel_rfl
    have E48 : aF.eval (.tmp 48) = .pointer (some ⟨w.heap.size, 50, none⟩) := by rw [hAF]; kernel_rfl
    have T49 : aF.tmps[49]? = some (.agg (C.extract 50 (50 + 3))) := by rw [hAF]; kernel_rfl
    have E49 : aF.eval (.tmp 49) = .agg (C.extract 50 (50 + 3)) := by rw [hAF]; kernel_rfl
    have T50 : aF.tmps[50]? = some (.pointer (some ⟨mb, 50, none⟩)) := by rw [hAF]; kernel_rfl
    have E50 : aF.eval (.tmp 50) = .pointer (some ⟨mb, 50, none⟩) := by rw [hAF]; kernel_rfl
    clear hAF
    refine ⟨?_, ?_, ?_, ?_, trivial⟩
    · exact seqOk_op _ (by intro d hd _; cases hd; exact T48) rfl fun w' hc => sv (run_fld 10 50 rfl E1 (fun w => by kernel_rfl)) hc
    · exact seqOk_op _ (by intro d hd _; cases hd; exact T49) rfl fun w' hc => sv (run_load1 rfl E48 (load_part w' _ C _ hc.b 50 3 (by omega) 40 _ Try.underlying40 rfl (by kernel_rfl))) hc
    · exact seqOk_op _ (by intro d hd _; cases hd; exact T50) rfl fun w' hc => sv (run_fld 10 50 rfl E3 (fun w => by kernel_rfl)) hc
    · exact seqOk_op undef (by intro d hd; cases hd) rfl fun w' hc => by
        have hc : ClBr C M0 w mb w' := hc
        exact ss (run_storeP rfl E50 E49 (hc.store hC h1C.out (by omega) 40 (by kernel_rfl))) (by show ClBr C M1 w mb _; rw [← hM1]; exact hc.part hC (by omega))
  · intro w2 hc
    simp only [putAll, List.foldl_cons, List.foldl_nil, Act.put, List.setIfInBounds_toArray, List.set_cons_succ, List.set_cons_zero]
    have hc : ClBr C M1 w mb w2 := hc
    have hof : MsgOf M1 (bareM m) := by
      have hx := (hmix.out.part hC (o := 50) (n := 3) (by omega))
      rw [hM1] at hx
      exact mix_of5 hx hMM.out hk.out (by decide) (by decide) (by decide) (by decide) (by decide) (by decide) (by decide) (by decide) (by decide) (by decide) (by decide) (by decide) (by decide)
    go_upto_region 13 with fail
    have HZ := Lib.hid hc.z
    have hone := Lib.hid (msg_one hof)
    have hsz := Lib.hid (msg_size _ hof.size)
    have hzs := Lib.hid (show zero53.size = M1.size from hof.size.symm)
    have hld := Lib.hid (run_load_row' (P := Try.prog) w2 mb 42 _ 42 _ hc.m Try.underlying42 rfl (msg_size _ hof.size))
    have Hof := Lib.hid hof
    have hlow := hc.low
    clear hc hof hD1 k3
    go_wp2_with (first | (refine wpList_load_v rfl 42 _ rfl ⟨mb, 0, none⟩ rfl _ hld.out ?_) | (refine wpList_store_row2 rfl 42 _ _ rfl rfl (w.heap.size + 1) rfl zero53 M1 42 HZ.out rfl (by exact hzs.out) hone.out hsz.out ?_; intro wz hBz hmz))
    (try simp only [Exit.inBlock, Exit.then])
    exact bodyPost_ret (results_cell_row rfl _ _ (w.heap.size + 1) _ _ _ _ rfl hBz Try.underlying42 rfl hsz.out) rfl ⟨M1, rfl, Hof.out, hlow.trans (hmz.below hlow.size (fun _ h => by rw [h]; omega))⟩

set_option maxHeartbeats 2000000 in
set_option maxRecDepth 100000 in
theorem bare0_calls (C : Array Value) (m : MV) (w : World) (hM : MsgOf C m) (hk : ¬ (1 ≤ m.kind ∧ m.kind ≤ 5)) : Calls Try.prog 47 #[.agg C] w fun e w' => ∃ D, e = .returned (.agg D) ∧ MsgOf D (bareM m) ∧ Below w.heap.size w w' := by
  have hC := hM.size
  have h1C := Lib.hid (msg_one hM)
  go_enter Try.func47, Try.ntmps47
  go_upto_region 1 with fail
  refine wp_world' (fun wx => Blk wx w.heap.size C 42 ∧ Blk wx (w.heap.size + 1) zero53 42 ∧ wx.heap.size = w.heap.size + 2 ∧ Below w.heap.size w wx) ⟨(Blk.new w C _).alloc _, Blk.new' w _ _ _, by simp, ((Below.refl _ _).alloc (Nat.le_refl _) _).alloc (by simp) _⟩ ?_
  rintro w0 ⟨hB, hZ, hz, hb⟩
  have k0 := hB.cell hM.h0
  have k1 := hB.cell hM.h1
  have hru := Lib.hid (run_two m.kind m.round)
  have hs0 := Lib.hid (show zero53.size = ((zero53.setIfInBounds 0 (.int .i64 m.kind)).setIfInBounds 1 (.int .i64 m.round)).size by simp)
  have hs1 := Lib.hid (two_one m.kind m.round)
  have hs2 := Lib.hid (msg_size ((zero53.setIfInBounds 0 (.int .i64 m.kind)).setIfInBounds 1 (.int .i64 m.round)) (by simp; rfl))
  have hmix := Lib.hid (((mix_zero C).set (by omega) hM.h0).set (by omega) hM.h1)
  generalize (zero53.setIfInBounds 0 (.int .i64 m.kind)).setIfInBounds 1 (.int .i64 m.round) = M0 at hs0 hs1 hs2 hru hmix
  have hB0 := Lib.hid hB
  have hZ0 := Lib.hid hZ
  have hMM := Lib.hid hM
  have hz' := Lib.hid hz
  clear hB hZ hM hz
  have n1 : (m.kind == 1) = false := beq_eq_false_iff_ne.2 (by omega)
  have n2 : (m.kind == 2) = false := beq_eq_false_iff_ne.2 (by omega)
  have n3 : (m.kind == 3) = false := beq_eq_false_iff_ne.2 (by omega)
  have n4 : (m.kind == 4) = false := beq_eq_false_iff_ne.2 (by omega)
  have n5 : (m.kind == 5) = false := beq_eq_false_iff_ne.2 (by omega)
  replace hk := Lib.hid hk
  go_upto_region 2 with (first | (refine wpList_build2_v rfl 42 0 1 _ _ rfl (.int .i64 m.kind) (.int .i64 m.round) rfl rfl (.agg M0) (hru.out _) ?_) | (refine wpList_store_new rfl 42 _ _ rfl rfl rfl _ M0 _ rfl (by exact hs0.out) hs1.out hs2.out ?_))
  have hD0 : ClBr C M0 w w0.heap.size (w0.alloc (.cells M0 42)) := ⟨hB0.out.alloc _, Blk.new _ _ _, hZ0.out.alloc _, hb.alloc hb.size _, hs0.out.symm, by have := hz'.out; omega⟩
  have k2 := hD0.b.cell hMM.out.h0
  refine wp_world' (fun wx => ClBr C M0 w w0.heap.size wx ∧ wx.cell? ⟨w.heap.size, 0, none⟩ = some (.int .i64 m.kind)) ⟨hD0, k2⟩ ?_
  rintro w1 ⟨hD1, k3⟩
  generalize w0.heap.size = mb at *
  clear k0 k1 hru hs0 hs1 hs2 hB0 hZ0 hz' hb hD0 k2
  have hof := mix_of0 hmix.out hMM.out hk.out (by decide) (by decide) (by decide) (by decide) (by decide) (by decide) (by decide) (by decide) (by decide) (by decide) (by decide) (by decide) (by decide)
  have hc := hD1
  go_upto_region 13 with fail
  have HZ := Lib.hid hc.z
  have hone := Lib.hid (msg_one hof)
  have hsz := Lib.hid (msg_size _ hof.size)
  have hzs := Lib.hid (show zero53.size = M0.size from hof.size.symm)
  have hld := Lib.hid (run_load_row' (P := Try.prog) w1 mb 42 _ 42 _ hc.m Try.underlying42 rfl (msg_size _ hof.size))
  have Hof := Lib.hid hof
  have hlow := hc.low
  clear hc hof hD1 k3
  go_wp2_with (first | (refine wpList_load_v rfl 42 _ rfl ⟨mb, 0, none⟩ rfl _ hld.out ?_) | (refine wpList_store_row2 rfl 42 _ _ rfl rfl (w.heap.size + 1) rfl zero53 M0 42 HZ.out rfl (by exact hzs.out) hone.out hsz.out ?_; intro wz hBz hmz))
  (try simp only [Exit.inBlock, Exit.then])
  exact bodyPost_ret (results_cell_row rfl _ _ (w.heap.size + 1) _ _ _ _ rfl hBz Try.underlying42 rfl hsz.out) rfl ⟨M0, rfl, Hof.out, hlow.trans (hmz.below hlow.size (fun _ h => by rw [h]; omega))⟩
theorem bare_calls (C : Array Value) (m : MV) (w : World) (hM : MsgOf C m) : Calls Try.prog 47 #[.agg C] w fun e w' => ∃ D, e = .returned (.agg D) ∧ MsgOf D (bareM m) ∧ Below w.heap.size w w' := by
  by_cases h : 1 ≤ m.kind ∧ m.kind ≤ 5
  · have h5 : m.kind = 1 ∨ m.kind = 2 ∨ m.kind = 3 ∨ m.kind = 4 ∨ m.kind = 5 := by omega
    rcases h5 with h | h | h | h | h
    · exact bare1_calls C m w hM h
    · exact bare2_calls C m w hM h
    · exact bare3_calls C m w hM h
    · exact bare4_calls C m w hM h
    · exact bare5_calls C m w hM h
  · exact bare0_calls C m w hM h
end Go.Proofs.Ytcipdimnbleljaa
