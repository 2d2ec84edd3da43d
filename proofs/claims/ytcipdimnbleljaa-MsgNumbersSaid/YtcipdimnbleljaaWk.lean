/-
  Layer 18 (msg): walk, with a writer.
-/
import Derived.Test.YtcipdimnbleljaaMk
namespace Go.Proofs.Ytcipdimnbleljaa
open Go.RowKit

theorem ahead_w (wb : Nat) (w : World) : (nilAhead 252 73 (.pointer (some ⟨wb, 0, none⟩)) "consign/msg.num").run Try.prog w = .ok (some false) w := by kernel_rfl
theorem ahead_r (rb : Nat) (w : World) : (nilAhead 252 85 (.agg #[.pointer (some ⟨rb, 0, none⟩)]) "consign/msg.num").run Try.prog w = .ok (some false) w := by kernel_rfl


set_option maxHeartbeats 1000000 in
set_option maxRecDepth 100000 in
theorem walk_w1 (wb nb : Nat) (s : ByteArray) (round req reserve : Int) (rq : Nat → Int) (C : Array Value) (t : TypeId) (w : World) (hs : s.size ≤ 140737488340000)
    (hw : Blk w wb #[.string s] 75) (hn : Blk w nb C t) (hne : nb ≠ wb)
    (h0 : C[0]? = some (.int .i64 1)) (h1 : C[1]? = some (.int .i64 round)) (b1 : 0 ≤ round ∧ round < 256)
    (h3 : C[3]? = some (.int .i64 req)) (h4 : C[4]? = some (.int .i64 reserve)) (h5 : ∀ i, i < 10 → C[5 + i]? = some (.int .i64 (rq i)))
    (b3 : 0 ≤ req ∧ req < 256) (b4 : 0 ≤ reserve ∧ reserve < 4294967296) (b5 : ∀ i, i < 10 → 0 ≤ rq i ∧ rq i < 256 ^ rqW i) :
    Calls Try.prog 28 #[.iface 73 (.pointer (some ⟨wb, 0, none⟩)), .pointer (some ⟨nb, 0, none⟩)] w fun e w' =>
      e = .returned (.tuple #[]) ∧ Mod (fun x => x = wb ∨ x = nb) w w' ∧ Blk w' wb #[.string (rqStr (addN (addN (addN s round 1) req 1) reserve 4) rq 10)] 75 ∧ ∃ C', Blk w' nb C' t ∧ C'[0]? = some (.int .i64 1) := by
  have hm := method_w wb
  have hq := ahead_w wb
  have hwl := hw.lt
  have hnl := hn.lt
  go_enter Try.func28, Try.ntmps28
  go_wp2_with fail
  refine (whole_w 1 (.inl rfl) (by omega) wb nb 1 s round C t _ (by omega) b1.1 b1.2 hw hn h1 hne).mono ?_
  rintro e w1 ⟨rfl, hm1, hW1⟩
  have hN1 := hn.mod hm1 hne
  have c0 := hN1.cell h0
  go_wp2_with fail
  refine (whole_w 1 (.inl rfl) (by omega) wb nb 3 _ req C t _ (by simp only [ByteArray.size_append, strOfNums_size, be_length]; omega) b3.1 b3.2 hW1 hN1 h3 hne).mono ?_
  rintro e w2 ⟨rfl, hm2, hW2⟩
  have hN2 := hN1.mod hm2 hne
  go_wp2_with fail
  refine (whole_w 4 (.inr (.inr (.inl rfl))) (by omega) wb nb 4 _ reserve C t _ (by simp only [ByteArray.size_append, strOfNums_size, be_length]; omega) b4.1 b4.2 hW2 hN2 h4 hne).mono ?_
  rintro e w3 ⟨rfl, hm3, hW3⟩
  have hN3 := hN2.mod hm3 hne
  go_wp2_with fail
  refine (request_w wb nb 5 _ rq C t _ (by simp only [ByteArray.size_append, strOfNums_size, be_length]; omega) b5 hW3 hN3 h5 hne).mono ?_
  rintro e w4 ⟨rfl, hm4, hW4⟩
  have hN4 := hN3.mod hm4 hne
  go_wp2
  exact bodyPost_end (v := .tuple #[]) (by simp [results, Try.results28, go_sem]) rfl ⟨rfl, (((hm1.trans hm2).trans hm3).trans hm4).widen (fun _ h => .inl h), hW4, _, hN4, h0⟩

set_option maxHeartbeats 1000000 in
set_option maxRecDepth 100000 in
theorem walk_w2 (wb nb : Nat) (s : ByteArray) (round carrier : Int) (dg : List Int) (C : Array Value) (t : TypeId) (w : World) (hs : s.size ≤ 140737488340000)
    (hw : Blk w wb #[.string s] 75) (hn : Blk w nb C t) (hne : nb ≠ wb)
    (h0 : C[0]? = some (.int .i64 2)) (h1 : C[1]? = some (.int .i64 round)) (b1 : 0 ≤ round ∧ round < 256)
    (h2 : C[2]? = some (.int .i64 carrier)) (h15 : ∀ i, i < 32 → C[15 + i]? = some (.int .u8 (dg.getD i 0)))
    (b2 : 0 ≤ carrier ∧ carrier < 256) (l15 : dg.length = 32) (b15 : ∀ x ∈ dg, 0 ≤ x ∧ x < 256) :
    Calls Try.prog 28 #[.iface 73 (.pointer (some ⟨wb, 0, none⟩)), .pointer (some ⟨nb, 0, none⟩)] w fun e w' =>
      e = .returned (.tuple #[]) ∧ Mod (fun x => x = wb ∨ x = nb) w w' ∧ Blk w' wb #[.string (addN (addN s round 1) carrier 1 ++ strOfNums dg)] 75 ∧ ∃ C', Blk w' nb C' t ∧ C'[0]? = some (.int .i64 2) := by
  have hm := method_w wb
  have hq := ahead_w wb
  have hwl := hw.lt
  have hnl := hn.lt
  go_enter Try.func28, Try.ntmps28
  go_wp2_with fail
  refine (whole_w 1 (.inl rfl) (by omega) wb nb 1 s round C t _ (by omega) b1.1 b1.2 hw hn h1 hne).mono ?_
  rintro e w1 ⟨rfl, hm1, hW1⟩
  have hN1 := hn.mod hm1 hne
  have c0 := hN1.cell h0
  go_wp2_with fail
  refine (whole_w 1 (.inl rfl) (by omega) wb nb 2 _ carrier C t _ (by simp only [ByteArray.size_append, strOfNums_size, be_length]; omega) b2.1 b2.2 hW1 hN1 h2 hne).mono ?_
  rintro e w2 ⟨rfl, hm2, hW2⟩
  have hN2 := hN1.mod hm2 hne
  go_wp2_with fail
  refine (digest_w wb nb 15 _ dg C t _ (by simp only [ByteArray.size_append, strOfNums_size, be_length]; omega) l15 b15 hW2 hN2 h15 hne).mono ?_
  rintro e w3 ⟨rfl, hm3, hW3⟩
  have hN3 := hN2.mod hm3 hne
  go_wp2
  exact bodyPost_end (v := .tuple #[]) (by simp [results, Try.results28, go_sem]) rfl ⟨rfl, ((hm1.trans hm2).trans hm3).widen (fun _ h => .inl h), hW3, _, hN3, h0⟩

set_option maxHeartbeats 1000000 in
set_option maxRecDepth 100000 in
theorem walk_w3 (wb nb : Nat) (s : ByteArray) (round : Int) (n cap : Nat) (p : Option Addr) (cs : List Value) (mc : Nat → Int) (md : Nat → List Int) (C : Array Value) (t : TypeId) (w : World) (hs : s.size ≤ 140737488340000)
    (hw : Blk w wb #[.string s] 75) (hn : Blk w nb C t) (hne : nb ≠ wb)
    (h0 : C[0]? = some (.int .i64 3)) (h1 : C[1]? = some (.int .i64 round)) (b1 : 0 ≤ round ∧ round < 256)
    (h47 : C[47]? = some (.slice p n cap)) (hn8 : n < 256)
    (hl : cs.length = n * 33) (hsrc : ∀ j v, cs[j]? = some v → ∃ a, p = some a ∧ a.block ≠ wb ∧ w.cell? (a.add j) = some v) (hnil : p = none → n = 0) (ho : ∀ v ∈ cs, v.oneCell' = true)
    (hmc : ∀ k, k < n → cs[k * 33]? = some (.int .i64 (mc k)) ∧ 0 ≤ mc k ∧ mc k < 256)
    (hml : ∀ k, k < n → (md k).length = 32) (hmb : ∀ k, k < n → ∀ x ∈ md k, 0 ≤ x ∧ x < 256) (hmd : ∀ k, k < n → ∀ i, i < 32 → cs[k * 33 + 1 + i]? = some (.int .u8 ((md k).getD i 0))) :
    Calls Try.prog 28 #[.iface 73 (.pointer (some ⟨wb, 0, none⟩)), .pointer (some ⟨nb, 0, none⟩)] w fun e w' =>
      e = .returned (.tuple #[]) ∧ Mod (fun x => x = wb ∨ x = nb) w w' ∧ Blk w' wb #[.string (mkStr (addN (addN s round 1) n 1) mc md n)] 75 ∧ ∃ C', Blk w' nb C' t ∧ C'[0]? = some (.int .i64 3) := by
  have hm := method_w wb
  have hq := ahead_w wb
  have hwl := hw.lt
  have hnl := hn.lt
  go_enter Try.func28, Try.ntmps28
  go_wp2_with fail
  refine (whole_w 1 (.inl rfl) (by omega) wb nb 1 s round C t _ (by omega) b1.1 b1.2 hw hn h1 hne).mono ?_
  rintro e w1 ⟨rfl, hm1, hW1⟩
  have hN1 := hn.mod hm1 hne
  have c0 := hN1.cell h0
  go_wp2_with fail
  have hsrc1 : ∀ j v, cs[j]? = some v → ∃ a, p = some a ∧ a.block ≠ wb ∧ w1.cell? (a.add j) = some v := fun j v hj => by
    obtain ⟨a, ha, hab, hv⟩ := hsrc j v hj
    have hadd : (a.add j).block = a.block := by unfold Addr.add; split <;> rfl
    exact ⟨a, ha, hab, hm1.cell_of (by rw [hadd]; exact hab) hv⟩
  refine (marks_w wb nb 47 n cap p _ C t cs mc md _ (by simp only [ByteArray.size_append, strOfNums_size, be_length]; omega) hn8 hW1 hN1 h47 hne hl hsrc1 hnil ho hmc hml hmb hmd).mono ?_
  rintro e w2 ⟨rfl, hm2, hW2, v, hN2⟩
  go_wp2
  exact bodyPost_end (v := .tuple #[]) (by simp [results, Try.results28, go_sem]) rfl ⟨rfl, (hm1.widen (fun _ h => .inl h)).trans hm2, hW2, _, hN2, by rw [Array.getElem?_setIfInBounds_ne (by omega)]; exact h0⟩

set_option maxHeartbeats 1000000 in
set_option maxRecDepth 100000 in
theorem walk_w4 (wb nb : Nat) (s : ByteArray) (round carrier bid nonce : Int) (C : Array Value) (t : TypeId) (w : World) (hs : s.size ≤ 140737488340000)
    (hw : Blk w wb #[.string s] 75) (hn : Blk w nb C t) (hne : nb ≠ wb)
    (h0 : C[0]? = some (.int .i64 4)) (h1 : C[1]? = some (.int .i64 round)) (b1 : 0 ≤ round ∧ round < 256)
    (h2 : C[2]? = some (.int .i64 carrier)) (h48 : C[48]? = some (.int .u64 bid)) (h49 : C[49]? = some (.int .u64 nonce))
    (b2 : 0 ≤ carrier ∧ carrier < 256) (b48 : 0 ≤ bid ∧ bid < 18446744073709551616) (b49 : 0 ≤ nonce ∧ nonce < 18446744073709551616) :
    Calls Try.prog 28 #[.iface 73 (.pointer (some ⟨wb, 0, none⟩)), .pointer (some ⟨nb, 0, none⟩)] w fun e w' =>
      e = .returned (.tuple #[]) ∧ Mod (fun x => x = wb ∨ x = nb) w w' ∧ Blk w' wb #[.string (addN (addN (addN (addN s round 1) carrier 1) bid 8) nonce 8)] 75 ∧ ∃ C', Blk w' nb C' t ∧ C'[0]? = some (.int .i64 4) := by
  have hm := method_w wb
  have hq := ahead_w wb
  have hwl := hw.lt
  have hnl := hn.lt
  go_enter Try.func28, Try.ntmps28
  go_wp2_with fail
  refine (whole_w 1 (.inl rfl) (by omega) wb nb 1 s round C t _ (by omega) b1.1 b1.2 hw hn h1 hne).mono ?_
  rintro e w1 ⟨rfl, hm1, hW1⟩
  have hN1 := hn.mod hm1 hne
  have c0 := hN1.cell h0
  go_wp2_with fail
  refine (whole_w 1 (.inl rfl) (by omega) wb nb 2 _ carrier C t _ (by simp only [ByteArray.size_append, strOfNums_size, be_length]; omega) b2.1 b2.2 hW1 hN1 h2 hne).mono ?_
  rintro e w2 ⟨rfl, hm2, hW2⟩
  have hN2 := hN1.mod hm2 hne
  go_wp2_with fail
  go_region_with (go_at_call 81; refine (wnum_calls 8 (.inr (.inr (.inr rfl))) wb nb 48 _ bid C t _ (by simp only [ByteArray.size_append, strOfNums_size, be_length]; omega) b48.1 b48.2 hW2.drew hN2.drew h48).mono ?_; rintro e w3 ⟨rfl, hm3, hW3⟩)
  have hN3 := hN2.drew.mod hm3 hne
  go_wp2_with fail
  go_region_with (go_at_call 81; refine (wnum_calls 8 (.inr (.inr (.inr rfl))) wb nb 49 _ nonce C t _ (by simp only [ByteArray.size_append, strOfNums_size, be_length]; omega) b49.1 b49.2 hW3.drew hN3.drew h49).mono ?_; rintro e w4 ⟨rfl, hm4, hW4⟩)
  have hN4 := hN3.drew.mod hm4 hne
  go_wp2
  exact bodyPost_end (v := .tuple #[]) (by simp [results, Try.results28, go_sem]) rfl ⟨rfl, (((hm1.trans hm2).drew.trans hm3).drew.trans hm4).widen (fun _ h => .inl h), hW4, _, hN4, h0⟩

set_option maxHeartbeats 1000000 in
set_option maxRecDepth 100000 in
theorem walk_w5 (wb nb : Nat) (s : ByteArray) (round state winner price : Int) (C : Array Value) (t : TypeId) (w : World) (hs : s.size ≤ 140737488340000)
    (hw : Blk w wb #[.string s] 75) (hn : Blk w nb C t) (hne : nb ≠ wb)
    (h0 : C[0]? = some (.int .i64 5)) (h1 : C[1]? = some (.int .i64 round)) (b1 : 0 ≤ round ∧ round < 256)
    (h50 : C[50]? = some (.int .i64 state)) (h51 : C[51]? = some (.int .i64 winner)) (h52 : C[52]? = some (.int .u64 price))
    (b50 : 0 ≤ state ∧ state < 256) (b51 : -1 ≤ winner ∧ winner < 255) (b52 : 0 ≤ price ∧ price < 18446744073709551616) :
    Calls Try.prog 28 #[.iface 73 (.pointer (some ⟨wb, 0, none⟩)), .pointer (some ⟨nb, 0, none⟩)] w fun e w' =>
      e = .returned (.tuple #[]) ∧ Mod (fun x => x = wb ∨ x = nb) w w' ∧ Blk w' wb #[.string (addN (addN (addN (addN s round 1) state 1) (winner + 1) 1) price 8)] 75 ∧ ∃ C', Blk w' nb C' t ∧ C'[0]? = some (.int .i64 5) := by
  have hm := method_w wb
  have hq := ahead_w wb
  have hwl := hw.lt
  have hnl := hn.lt
  go_enter Try.func28, Try.ntmps28
  go_wp2_with fail
  refine (whole_w 1 (.inl rfl) (by omega) wb nb 1 s round C t _ (by omega) b1.1 b1.2 hw hn h1 hne).mono ?_
  rintro e w1 ⟨rfl, hm1, hW1⟩
  have hN1 := hn.mod hm1 hne
  have c0 := hN1.cell h0
  go_wp2_with fail
  refine (whole_w 1 (.inl rfl) (by omega) wb nb 50 _ state C t _ (by simp only [ByteArray.size_append, strOfNums_size, be_length]; omega) b50.1 b50.2 hW1 hN1 h50 hne).mono ?_
  rintro e w2 ⟨rfl, hm2, hW2⟩
  have hN2 := hN1.mod hm2 hne
  have c51 := hN2.cell h51
  have hwl2 := hW2.lt
  have hnl2 := hN2.lt
  go_wp2_with fail
  refine (whole_w 1 (.inl rfl) (by omega) wb w2.heap.size 0 _ (winner + 1) #[.int .i64 (winner + 1)] 3 _ (by simp only [ByteArray.size_append, strOfNums_size, be_length]; omega) (by omega) (by omega) (hW2.alloc _) (Blk.new w2 _ _) rfl (by omega)).mono ?_
  rintro e w3 ⟨rfl, hm3, hW3⟩
  have hB3 := (Blk.new w2 #[.int .i64 (winner + 1)] 3).mod hm3 (by omega)
  have hN3 := (hN2.alloc (.cells #[.int .i64 (winner + 1)] 3)).mod hm3 hne
  have c3 := hB3.cell (i := 0) rfl
  have d51 := hN3.cell h51
  have e51 := hN3.froz 51
  have hsub : winner + 1 - 1 = winner := by omega
  have hss := setCell_same hN3 h51
  go_wp2_with fail
  go_region_with (go_at_call 81; refine (wnum_calls 8 (.inr (.inr (.inr rfl))) wb nb 52 _ price C t _ (by simp only [ByteArray.size_append, strOfNums_size, be_length]; omega) b52.1 b52.2 hW3.drew hN3.drew h52).mono ?_; rintro e w4 ⟨rfl, hm4, hW4⟩)
  have hN4 := hN3.drew.mod hm4 hne
  go_wp2
  exact bodyPost_end (v := .tuple #[]) (by simp [results, Try.results28, go_sem]) rfl ⟨rfl, (((hm1.trans hm2).trans hm3.from_alloc).drew.trans hm4).widen (fun _ h => .inl h), hW4, _, hN4, h0⟩
end Go.Proofs.Ytcipdimnbleljaa
