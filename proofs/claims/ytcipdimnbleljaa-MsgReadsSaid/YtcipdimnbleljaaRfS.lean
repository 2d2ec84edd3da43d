/-
  The document's side of layer 18: read, of any kind.
  The document's side of layer 18: Decode (under way).
  The document's side of layer 18: Decode, where it reads.
-/
import Derived.Test.YtcipdimnbleljaaRfP
import Derived.Test.YtcipdimnbleljaaRfE
namespace Go.Proofs.Ytcipdimnbleljaa
open Go.RowKit
open Extern.Stop (cell)

/-- what read leaves, of any kind: broken if it is too short, else the message (the row's capacity hangs on the appends) -/
def ReadAny (s : ByteArray) (b : Nat) (k : Int) (w : World) (e : Ending) (w' : World) : Prop :=
  ∃ C a bad, e = .returned (.agg C) ∧ (C.size = 53 ∧ ∀ v ∈ C.toList, v.oneCell' = true) ∧ Blk w' b #[.string (s.extract a s.size), .bool bad] 89 ∧ Mod (fun x => x = b) w w' ∧ (s.size < widS k s → bad = true) ∧
    (widS k s ≤ s.size → bad = false ∧ a = widS k s ∧ ∃ p cap, MsgOf C { decM k s p with cap := cap } ∧ MksAt w' (decM k s p).p (decM k s p).ms ∧ ∀ q, (decM k s p).p = some q → w.heap.size ≤ q.block)
theorem read_any {s : ByteArray} {b : Nat} {k : Int} {w : World} {e : Ending} {w' : World} (hk : k ≠ 3) (h : ReadPost s b k w e w') : ReadAny s b k w e w' := by
  obtain ⟨C, a, bad, h1, h0, h2, h3, h4, h5⟩ := h
  refine ⟨C, a, bad, h1, h0, h2, h3, h4, fun hw => ?_⟩
  obtain ⟨g1, g2, p, g3, g4⟩ := h5 hw
  exact ⟨g1, g2, p, (decM k s p).cap, g3, g4.mks, fun q hq => by simp [decM, hk] at hq⟩
theorem read_calls_d (s : ByteArray) (b : Nat) (k : Int) (w : World) (hB : Blk w b #[.string s, .bool false] 89) (hs : s.size ≤ 140737488351232) (hk : 1 ≤ k ∧ k ≤ 5) :
    Calls Try.prog 36 #[.pointer (some ⟨b, 0, none⟩), .int .i64 k] w (ReadAny s b k w) := by
  have h : k = 1 ∨ k = 2 ∨ k = 3 ∨ k = 4 ∨ k = 5 := by omega
  rcases h with rfl | rfl | rfl | rfl | rfl
  · exact (read1 s b w hB hs).mono fun e w' h => read_any (by decide) h
  · exact (read2 s b w hB hs).mono fun e w' h => read_any (by decide) h
  · refine (read3 s b w hB hs).mono fun e w' h => ?_
    obtain ⟨C, a, bad, h1, h0, h2, h3, h4, h5⟩ := h
    refine ⟨C, a, bad, h1, h0, h2, h3, h4, fun hw => ?_⟩
    obtain ⟨g1, g2, p, cap, g3, g4, g5⟩ := h5 hw
    exact ⟨g1, g2, p, cap, g3, g4, g5⟩
  · exact (read4 s b w hB hs).mono fun e w' h => read_any (by decide) h
  · exact (read5 s b w hB hs).mono fun e w' h => read_any (by decide) h
end Go.Proofs.Ytcipdimnbleljaa
namespace Go.Proofs.Ytcipdimnbleljaa
open Go.RowKit
open Extern.Stop (cell)

set_option maxHeartbeats 2000000 in
set_option maxRecDepth 100000 in
theorem decd_short (s : ByteArray) (w : World) (h : s.size < 3) : Calls Try.prog 26 #[.string s] w fun e w' => e = .returned (.tuple #[.agg zero53, .int .i64 14]) ∧ Below w.heap.size w w' := by
  have h3 : (s.size : Int) < 3 := by omega
  go_enter Try.func26, Try.ntmps26
  go_upto_region 1 with fail
  refine wp_world' (fun wx => Blk wx w.heap.size zero53 42 ∧ Below w.heap.size w wx) ⟨Blk.new w zero53 42, (Below.refl _ _).alloc (Nat.le_refl _) _⟩ ?_
  rintro w0 ⟨hB, hb⟩
  have HB := Lib.hid hB
  have hbl := hb
  clear hB hb
  go_quiet (fail)
  go_wp2_with (first | (refine wpList_build_v rfl 42 rfl _ (run_zero _) ?_) | (refine wpList_store_row rfl 42 _ _ rfl rfl w.heap.size rfl zero53 zero53 42 HB.out rfl rfl zero_one (msg_size _ rfl) ?_; intro wz hBz hmz))
  have hlow : Below w.heap.size w (w0.drewN nq) := below_drewN hbl _
  exact bodyPost_ret (results_cell_tmp rfl _ _ w.heap.size _ _ _ _ rfl hBz Try.underlying42 rfl (msg_size _ rfl)) rfl ⟨rfl, hlow.trans (hmz.below hlow.size (fun _ h => Nat.le_of_eq h.symm))⟩

set_option maxHeartbeats 2000000 in
set_option maxRecDepth 100000 in
theorem decd_len (s : ByteArray) (w : World) (hs : s.size ≤ 140737488351232) (h3 : 3 ≤ s.size) (hl : s.size < 3 + (256 * s[1].toNat + s[2].toNat)) : Calls Try.prog 26 #[.string s] w fun e w' => e = .returned (.tuple #[.agg zero53, .int .i64 14]) ∧ Below w.heap.size w w' := by
  have i3 : ¬ (s.size : Int) < 3 := by omega
  have i1 : (1 : Int) < (s.size : Int) := by omega
  have i2 : (2 : Int) < (s.size : Int) := by omega
  obtain ⟨b1, hb1, hd1⟩ : ∃ b : Int, ((s[1].toNat : Nat) : Int) = b ∧ (0 ≤ b ∧ b < 256) := ⟨_, rfl, by have := s[1].toNat_lt; omega⟩
  obtain ⟨b2, hb2, hd2⟩ : ∃ b : Int, ((s[2].toNat : Nat) : Int) = b ∧ (0 ≤ b ∧ b < 256) := ⟨_, rfl, by have := s[2].toNat_lt; omega⟩
  have s1 : IntKind.i64.wrap b1 = b1 := IntWalk.i64_in _ (by omega)
  have s2 : IntKind.i64.wrap b2 = b2 := IntWalk.i64_in _ (by omega)
  have s3 : IntKind.i64.wrap (b1 * 256) = b1 * 256 := IntWalk.i64_in _ (by omega)
  have s4 : IntKind.i64.wrap (b1 * 256 + b2) = b1 * 256 + b2 := IntWalk.i64_in _ (by omega)
  have s5 : IntKind.i64.wrap ((s.size : Int) - 3) = (s.size : Int) - 3 := IntWalk.i64_in _ (by omega)
  have hc : (s.size : Int) - 3 < b1 * 256 + b2 := by omega
  go_enter Try.func26, Try.ntmps26
  go_upto_region 1 with fail
  refine wp_world' (fun wx => Blk wx w.heap.size zero53 42 ∧ Below w.heap.size w wx) ⟨Blk.new w zero53 42, (Below.refl _ _).alloc (Nat.le_refl _) _⟩ ?_
  rintro w0 ⟨hB, hb⟩
  have HB := Lib.hid hB
  clear hB
  go_quiet (fail)
  go_wp2_with (first | (refine wpList_build_v rfl 42 rfl _ (run_zero _) ?_) | (refine wpList_store_row rfl 42 _ _ rfl rfl w.heap.size rfl zero53 zero53 42 HB.out rfl rfl zero_one (msg_size _ rfl) ?_; intro wz hBz hmz))
  have hlow : Below w.heap.size w (w0.drewN nq) := below_drewN hb _
  exact bodyPost_ret (results_cell_tmp rfl _ _ w.heap.size _ _ _ _ rfl hBz Try.underlying42 rfl (msg_size _ rfl)) rfl ⟨rfl, hlow.trans (hmz.below hlow.size (fun _ h => Nat.le_of_eq h.symm))⟩

set_option maxHeartbeats 2000000 in
set_option maxRecDepth 100000 in
theorem decd_more (s : ByteArray) (w : World) (hs : s.size ≤ 140737488351232) (h3 : 3 ≤ s.size) (_ : ¬ s.size < 3 + (256 * s[1].toNat + s[2].toNat)) (hm : 3 + (256 * s[1].toNat + s[2].toNat) < s.size) : Calls Try.prog 26 #[.string s] w fun e w' => e = .returned (.tuple #[.agg zero53, .int .i64 15]) ∧ Below w.heap.size w w' := by
  have i3 : ¬ (s.size : Int) < 3 := by omega
  have i1 : (1 : Int) < (s.size : Int) := by omega
  have i2 : (2 : Int) < (s.size : Int) := by omega
  have i0 : 0 < s.size := by omega
  obtain ⟨b0, hb0, hd0⟩ : ∃ b : Int, ((s[0].toNat : Nat) : Int) = b ∧ (0 ≤ b ∧ b < 256) := ⟨_, rfl, by have := s[0].toNat_lt; omega⟩
  obtain ⟨b1, hb1, hd1⟩ : ∃ b : Int, ((s[1].toNat : Nat) : Int) = b ∧ (0 ≤ b ∧ b < 256) := ⟨_, rfl, by have := s[1].toNat_lt; omega⟩
  obtain ⟨b2, hb2, hd2⟩ : ∃ b : Int, ((s[2].toNat : Nat) : Int) = b ∧ (0 ≤ b ∧ b < 256) := ⟨_, rfl, by have := s[2].toNat_lt; omega⟩
  have s0 : IntKind.i64.wrap b0 = b0 := IntWalk.i64_in _ (by omega)
  have s1 : IntKind.i64.wrap b1 = b1 := IntWalk.i64_in _ (by omega)
  have s2 : IntKind.i64.wrap b2 = b2 := IntWalk.i64_in _ (by omega)
  have s3 : IntKind.i64.wrap (b1 * 256) = b1 * 256 := IntWalk.i64_in _ (by omega)
  have s4 : IntKind.i64.wrap (b1 * 256 + b2) = b1 * 256 + b2 := IntWalk.i64_in _ (by omega)
  have s5 : IntKind.i64.wrap ((s.size : Int) - 3) = (s.size : Int) - 3 := IntWalk.i64_in _ (by omega)
  have hc : ¬ (s.size : Int) - 3 < b1 * 256 + b2 := by omega
  have hg : b1 * 256 + b2 < (s.size : Int) - 3 := by omega
  go_enter Try.func26, Try.ntmps26
  go_upto_region 1 with fail
  refine wp_world' (fun wx => Blk wx w.heap.size zero53 42 ∧ Below w.heap.size w wx) ⟨Blk.new w zero53 42, (Below.refl _ _).alloc (Nat.le_refl _) _⟩ ?_
  rintro w0 ⟨hB, hb⟩
  have HB := Lib.hid hB
  clear hB
  go_quiet (fail)
  go_wp2_with fail
  go_quiet (fail)
  go_wp2_with (first | (refine wpList_build_v rfl 42 rfl _ (run_zero _) ?_) | (refine wpList_store_row rfl 42 _ _ rfl rfl w.heap.size rfl zero53 zero53 42 HB.out rfl rfl zero_one (msg_size _ rfl) ?_; intro wz hBz hmz))
  have hlow : ∀ n m, Below w.heap.size w ((w0.drewN n).drewN m) := fun n m => below_drewN (below_drewN hb n) m
  exact bodyPost_ret (results_cell_tmp rfl _ _ w.heap.size _ _ _ _ rfl hBz Try.underlying42 rfl (msg_size _ rfl)) rfl ⟨rfl, (hlow _ _).trans (hmz.below (hlow _ _).size (fun _ h => Nat.le_of_eq h.symm))⟩

set_option maxHeartbeats 2000000 in
set_option maxRecDepth 100000 in
theorem decd_low (s : ByteArray) (w : World) (hs : s.size ≤ 140737488351232) (h3 : 3 ≤ s.size) (hl : ¬ s.size < 3 + (256 * s[1].toNat + s[2].toNat)) (hm : ¬ 3 + (256 * s[1].toNat + s[2].toNat) < s.size) (hk : s[0].toNat < 1) : Calls Try.prog 26 #[.string s] w fun e w' => e = .returned (.tuple #[.agg zero53, .int .i64 15]) ∧ Below w.heap.size w w' := by
  have i3 : ¬ (s.size : Int) < 3 := by omega
  have i1 : (1 : Int) < (s.size : Int) := by omega
  have i2 : (2 : Int) < (s.size : Int) := by omega
  have i0 : 0 < s.size := by omega
  obtain ⟨b0, hb0, hd0⟩ : ∃ b : Int, ((s[0].toNat : Nat) : Int) = b ∧ (0 ≤ b ∧ b < 256) := ⟨_, rfl, by have := s[0].toNat_lt; omega⟩
  obtain ⟨b1, hb1, hd1⟩ : ∃ b : Int, ((s[1].toNat : Nat) : Int) = b ∧ (0 ≤ b ∧ b < 256) := ⟨_, rfl, by have := s[1].toNat_lt; omega⟩
  obtain ⟨b2, hb2, hd2⟩ : ∃ b : Int, ((s[2].toNat : Nat) : Int) = b ∧ (0 ≤ b ∧ b < 256) := ⟨_, rfl, by have := s[2].toNat_lt; omega⟩
  have s0 : IntKind.i64.wrap b0 = b0 := IntWalk.i64_in _ (by omega)
  have s1 : IntKind.i64.wrap b1 = b1 := IntWalk.i64_in _ (by omega)
  have s2 : IntKind.i64.wrap b2 = b2 := IntWalk.i64_in _ (by omega)
  have s3 : IntKind.i64.wrap (b1 * 256) = b1 * 256 := IntWalk.i64_in _ (by omega)
  have s4 : IntKind.i64.wrap (b1 * 256 + b2) = b1 * 256 + b2 := IntWalk.i64_in _ (by omega)
  have s5 : IntKind.i64.wrap ((s.size : Int) - 3) = (s.size : Int) - 3 := IntWalk.i64_in _ (by omega)
  have hc : ¬ (s.size : Int) - 3 < b1 * 256 + b2 := by omega
  have hg : ¬ b1 * 256 + b2 < (s.size : Int) - 3 := by omega
  have hk1 : b0 < 1 := by omega
  go_enter Try.func26, Try.ntmps26
  go_upto_region 1 with fail
  refine wp_world' (fun wx => Blk wx w.heap.size zero53 42 ∧ Below w.heap.size w wx) ⟨Blk.new w zero53 42, (Below.refl _ _).alloc (Nat.le_refl _) _⟩ ?_
  rintro w0 ⟨hB, hb⟩
  have HB := Lib.hid hB
  clear hB
  go_quiet (fail)
  go_wp2_with fail
  go_quiet (fail)
  go_wp2_with (first | (refine wpList_build_v rfl 42 rfl _ (run_zero _) ?_) | (refine wpList_store_row rfl 42 _ _ rfl rfl w.heap.size rfl zero53 zero53 42 HB.out rfl rfl zero_one (msg_size _ rfl) ?_; intro wz hBz hmz))
  have hlow : ∀ n m, Below w.heap.size w ((w0.drewN n).drewN m) := fun n m => below_drewN (below_drewN hb n) m
  exact bodyPost_ret (results_cell_tmp rfl _ _ w.heap.size _ _ _ _ rfl hBz Try.underlying42 rfl (msg_size _ rfl)) rfl ⟨rfl, (hlow _ _).trans (hmz.below (hlow _ _).size (fun _ h => Nat.le_of_eq h.symm))⟩

set_option maxHeartbeats 2000000 in
set_option maxRecDepth 100000 in
theorem decd_high (s : ByteArray) (w : World) (hs : s.size ≤ 140737488351232) (h3 : 3 ≤ s.size) (hl : ¬ s.size < 3 + (256 * s[1].toNat + s[2].toNat)) (hm : ¬ 3 + (256 * s[1].toNat + s[2].toNat) < s.size) (hk : 5 < s[0].toNat) : Calls Try.prog 26 #[.string s] w fun e w' => e = .returned (.tuple #[.agg zero53, .int .i64 15]) ∧ Below w.heap.size w w' := by
  have i3 : ¬ (s.size : Int) < 3 := by omega
  have i1 : (1 : Int) < (s.size : Int) := by omega
  have i2 : (2 : Int) < (s.size : Int) := by omega
  have i0 : 0 < s.size := by omega
  obtain ⟨b0, hb0, hd0⟩ : ∃ b : Int, ((s[0].toNat : Nat) : Int) = b ∧ (0 ≤ b ∧ b < 256) := ⟨_, rfl, by have := s[0].toNat_lt; omega⟩
  obtain ⟨b1, hb1, hd1⟩ : ∃ b : Int, ((s[1].toNat : Nat) : Int) = b ∧ (0 ≤ b ∧ b < 256) := ⟨_, rfl, by have := s[1].toNat_lt; omega⟩
  obtain ⟨b2, hb2, hd2⟩ : ∃ b : Int, ((s[2].toNat : Nat) : Int) = b ∧ (0 ≤ b ∧ b < 256) := ⟨_, rfl, by have := s[2].toNat_lt; omega⟩
  have s0 : IntKind.i64.wrap b0 = b0 := IntWalk.i64_in _ (by omega)
  have s1 : IntKind.i64.wrap b1 = b1 := IntWalk.i64_in _ (by omega)
  have s2 : IntKind.i64.wrap b2 = b2 := IntWalk.i64_in _ (by omega)
  have s3 : IntKind.i64.wrap (b1 * 256) = b1 * 256 := IntWalk.i64_in _ (by omega)
  have s4 : IntKind.i64.wrap (b1 * 256 + b2) = b1 * 256 + b2 := IntWalk.i64_in _ (by omega)
  have s5 : IntKind.i64.wrap ((s.size : Int) - 3) = (s.size : Int) - 3 := IntWalk.i64_in _ (by omega)
  have hc : ¬ (s.size : Int) - 3 < b1 * 256 + b2 := by omega
  have hg : ¬ b1 * 256 + b2 < (s.size : Int) - 3 := by omega
  have hk1 : ¬ b0 < 1 := by omega
  have hk2 : 5 < b0 := by omega
  go_enter Try.func26, Try.ntmps26
  go_upto_region 1 with fail
  refine wp_world' (fun wx => Blk wx w.heap.size zero53 42 ∧ Below w.heap.size w wx) ⟨Blk.new w zero53 42, (Below.refl _ _).alloc (Nat.le_refl _) _⟩ ?_
  rintro w0 ⟨hB, hb⟩
  have HB := Lib.hid hB
  clear hB
  go_quiet (fail)
  go_wp2_with fail
  go_quiet (fail)
  go_wp2_with (first | (refine wpList_build_v rfl 42 rfl _ (run_zero _) ?_) | (refine wpList_store_row rfl 42 _ _ rfl rfl w.heap.size rfl zero53 zero53 42 HB.out rfl rfl zero_one (msg_size _ rfl) ?_; intro wz hBz hmz))
  have hlow : ∀ n m, Below w.heap.size w ((w0.drewN n).drewN m) := fun n m => below_drewN (below_drewN hb n) m
  exact bodyPost_ret (results_cell_tmp rfl _ _ w.heap.size _ _ _ _ rfl hBz Try.underlying42 rfl (msg_size _ rfl)) rfl ⟨rfl, (hlow _ _).trans (hmz.below (hlow _ _).size (fun _ h => Nat.le_of_eq h.symm))⟩
end Go.Proofs.Ytcipdimnbleljaa
namespace Go.Proofs.Ytcipdimnbleljaa
open Go.RowKit
open Extern.Stop (cell)

theorem run_mkReader (T : ByteArray) (w : World) : (Instr.build 89 #[(0, .string T)]).run Try.prog w = .ok (.agg #[.string T, .bool false]) w := by kernel_rfl
/-- Decode's answer: an error, or a message (with some capacity of its row) -/
def DecD (s : ByteArray) (w : World) (e : Ending) (w' : World) : Prop :=
  ∃ C p cap, e = .returned (.tuple #[.agg C, .int .i64 (decE s)]) ∧ Below w.heap.size w w' ∧ MsgOf C { decR s p with cap := cap } ∧ MarksAt w' { decR s p with cap := cap }
theorem decd_zero {s : ByteArray} {w w' : World} {x : Int} {v : Value} (h : decE s = x ∧ x ≠ 0) (hb : Below w.heap.size w w') (hv : v = .int .i64 x) : DecD s w (.returned (.tuple #[.agg zero53, v])) w' := by
  obtain ⟨C, p, h1, h2, h3, h4, _⟩ := dec_zero (s := s) (w := w) (w' := w') h hb hv
  have e : ({ decR s p with cap := (decR s p).cap } : MV) = decR s p := rfl
  exact ⟨C, p, (decR s p).cap, h1, h2, by rw [e]; exact h3, by rw [e]; exact h4⟩
theorem cap_rg {m : MV} (h : MsgRg m) (cap : Nat) : MsgRg { m with cap := cap } := ⟨h.kind, h.round, h.carrier, h.req, h.reserve, h.rq, h.ms, h.bid, h.nonce, h.state, h.winner, h.price⟩

set_option maxHeartbeats 4000000 in
set_option maxRecDepth 100000 in
theorem decd_read (s : ByteArray) (w : World) (hs : s.size ≤ 140737488351232) (h3 : 3 ≤ s.size) (hl : ¬ s.size < 3 + (256 * s[1].toNat + s[2].toNat)) (hm : ¬ 3 + (256 * s[1].toNat + s[2].toNat) < s.size) (hk1 : 1 ≤ s[0].toNat) (hk5 : s[0].toNat ≤ 5)
    (k : Int) (hkk : ((s[0].toNat : Nat) : Int) = k) (T : ByteArray) (hT : s.extract 3 s.size = T) (hE : Hid (decE s = if T.size < widS k T then 14 else if widS k T < T.size then 15 else if mayB (decM k T none) = true then 0 else 15)) (hR : Hid (∀ p, decE s = 0 → decR s p = decM k T p)) :
    Calls Try.prog 26 #[.string s] w (DecD s w) := by
  have i3 : ¬ (s.size : Int) < 3 := by omega
  have i1 : (1 : Int) < (s.size : Int) := by omega
  have i2 : (2 : Int) < (s.size : Int) := by omega
  have i0 : 0 < s.size := by omega
  obtain ⟨b1, hb1, hd1⟩ : ∃ b : Int, ((s[1].toNat : Nat) : Int) = b ∧ (0 ≤ b ∧ b < 256) := ⟨_, rfl, by have := s[1].toNat_lt; omega⟩
  obtain ⟨b2, hb2, hd2⟩ : ∃ b : Int, ((s[2].toNat : Nat) : Int) = b ∧ (0 ≤ b ∧ b < 256) := ⟨_, rfl, by have := s[2].toNat_lt; omega⟩
  have s0 : IntKind.i64.wrap k = k := IntWalk.i64_in _ (by omega)
  have s1 : IntKind.i64.wrap b1 = b1 := IntWalk.i64_in _ (by omega)
  have s2 : IntKind.i64.wrap b2 = b2 := IntWalk.i64_in _ (by omega)
  have s3 : IntKind.i64.wrap (b1 * 256) = b1 * 256 := IntWalk.i64_in _ (by omega)
  have s4 : IntKind.i64.wrap (b1 * 256 + b2) = b1 * 256 + b2 := IntWalk.i64_in _ (by omega)
  have s5 : IntKind.i64.wrap ((s.size : Int) - 3) = (s.size : Int) - 3 := IntWalk.i64_in _ (by omega)
  have hc : ¬ (s.size : Int) - 3 < b1 * 256 + b2 := by omega
  have hg : ¬ b1 * 256 + b2 < (s.size : Int) - 3 := by omega
  have hk1' : ¬ k < 1 := by omega
  have hk2 : ¬ 5 < k := by omega
  have hTs : T.size + 3 = s.size := by rw [← hT, ByteArray.size_extract]; omega
  have hone1 : Hid (∀ v ∈ (#[.string T, .bool false] : Array Value).toList, v.oneCell' = true) := Lib.hid (by simp [Value.oneCell'])
  have hsz1 := Lib.hid (show (Try.prog.info? 89).map (·.size) = some (#[Value.string T, .bool false] : Array Value).size by kernel_rfl)
  go_enter Try.func26, Try.ntmps26
  go_upto_region 1 with fail
  refine wp_world' (fun wx => Blk wx w.heap.size zero53 42 ∧ Below w.heap.size w wx ∧ w.heap.size < wx.heap.size) ⟨Blk.new w zero53 42, (Below.refl _ _).alloc (Nat.le_refl _) _, by simp⟩ ?_
  rintro w0 ⟨hB, hb, hlt⟩
  have HB := Lib.hid hB
  clear hB
  go_quiet (fail)
  go_wp2_with fail
  go_quiet (fail)
  go_upto_region 7 with (first | (refine wpList_build1_v rfl 89 0 _ rfl (.string T) rfl (.agg #[.string T, .bool false]) (run_mkReader T _) ?_) | (refine wpList_store_new rfl 89 _ _ rfl rfl rfl _ #[.string T, .bool false] _ rfl (by rfl) hone1.out hsz1.out ?_))
  have hbx : ∀ n, Below w.heap.size w (w0.drewN n) := fun n => below_drewN hb n
  refine wp_world' (fun wx => Blk wx w.heap.size zero53 42 ∧ Blk wx w0.heap.size #[.string T, .bool false] 89 ∧ Below w.heap.size w wx ∧ wx.heap.size = w0.heap.size + 1) ⟨HB.out.alloc _, Blk.new _ _ _, (hbx _).alloc hb.size _, by simp⟩ ?_
  rintro w1 ⟨hB1, hR1, hb1', hz1⟩
  replace hz1 := Lib.hid hz1
  replace HB := Lib.hid hB1
  replace hb1' := Lib.hid hb1'
  have hrd := Lib.hid (read_calls_d T w0.heap.size k w1 hR1 (by omega) (by omega))
  have HL := Lib.hid hlt
  clear hB1 hR1 hb hlt hbx
  go_wp2_with fail
  refine hrd.out.mono ?_
  rintro e w2 ⟨C, a, bad, rfl, ⟨hc53, hc1⟩, hR2, hm2, hbad, hgood⟩
  have hL := HL.out
  have hz := hz1.out
  have HB2 := Lib.hid (HB.out.mod hm2 (by omega))
  have hbN2 := Lib.hid (hb1'.out.trans (hm2.below (by rw [hz]; omega) (by intro x hx; rw [hx]; omega)))
  have hz2 : w.heap.size < w2.heap.size := by have := hm2.size; omega
  replace hz2 := Lib.hid hz2
  have hz3 : w0.heap.size < w2.heap.size := by have := hm2.size; omega
  replace hz3 := Lib.hid hz3
  have HM2 := Lib.hid hm2
  have HR2 := Lib.hid hR2
  have HG := Lib.hid hgood
  have Hbad := Lib.hid hbad
  clear hR2 hm2 hbad hgood hL hz hrd
  have hcs : Hid (zero53.size = C.size ∧ (∀ v ∈ C.toList, v.oneCell' = true) ∧ (Try.prog.info? 42).map (·.size) = some C.size) := Lib.hid ⟨hc53.symm, hc1, msg_size C hc53⟩
  clear hc53 hc1
  go_upto_region 8 with (first | (refine wpList_store_new rfl 42 _ _ rfl rfl rfl _ C _ rfl (by exact hcs.out.1) hcs.out.2.1 hcs.out.2.2 ?_))
  refine wp_world' (fun wx => Blk wx w.heap.size zero53 42 ∧ Blk wx w0.heap.size #[.string (T.extract a T.size), .bool bad] 89 ∧ Blk wx w2.heap.size C 42 ∧ Below w2.heap.size w2 wx) ⟨HB2.out.alloc _, HR2.out.alloc _, Blk.new _ _ _, (Below.refl _ _).alloc (Nat.le_refl _) _⟩ ?_
  rintro w3 ⟨hB3, hR3, hC3, hb3⟩
  have k0 := hR3.cell (i := 0) rfl
  have k1 := hR3.cell (i := 1) rfl
  have hbN3 := hbN2.out.trans (hb3.mono (Nat.le_of_lt hz2.out))
  have HB3 := Lib.hid hB3
  have HC3 := Lib.hid hC3
  have HN3 := Lib.hid hbN3
  have Hb3 := Lib.hid hb3
  clear HB HB2 HR2 hB3 hR3 hC3 hb3 hbN3
  have hgz : Hid (∀ {wy wz : World} {v : Value} (x : Int), Below w.heap.size w wy → Mod (· = w.heap.size) wy wz → decE s = x ∧ x ≠ 0 → v = .int .i64 x → DecD s w (.returned (.tuple #[.agg zero53, v])) wz) := Lib.hid (fun x h1 h2 h3 h4 => decd_zero h3 (h1.trans (h2.below h1.size (fun _ h => Nat.le_of_eq h.symm))) h4)
  cases hbd : bad with
  | true =>
    rw [hbd] at k1
    have HE : Hid (decE s = 14) := Lib.hid (by
      rw [hE.out]
      by_cases h : T.size < widS k T
      · rw [if_pos h]
      · have := (HG.out (by omega)).1
        rw [hbd] at this
        cases this)
    go_wp2_with (first | (refine wpList_build_v rfl 42 rfl _ (run_zero _) ?_) | (refine wpList_store_row rfl 42 _ _ rfl rfl w.heap.size rfl zero53 zero53 42 HB3.out rfl rfl zero_one (msg_size _ rfl) ?_; intro wz hBz hmz))
    exact bodyPost_ret (results_cell_tmp rfl _ _ w.heap.size _ _ _ _ rfl hBz Try.underlying42 rfl (msg_size _ rfl)) rfl (hgz.out 14 (by exact HN3.out) hmz ⟨HE.out, by decide⟩ rfl)
  | false =>
    rw [hbd] at k1
    have hle : widS k T ≤ T.size := by
      by_cases h : T.size < widS k T
      · have := Hbad.out h
        rw [hbd] at this
        cases this
      · omega
    obtain ⟨_, ha, p, cap, hM, hA, hp⟩ := HG.out hle
    have hrs : (T.extract a T.size).size = T.size - widS k T := by rw [ByteArray.size_extract, ha]; omega
    replace hrs := Lib.hid hrs
    obtain ⟨R, hRR⟩ : ∃ R, T.extract a T.size = R := ⟨_, rfl⟩
    rw [hRR] at hrs k0
    by_cases hmr : widS k T < T.size
    · have HE : Hid (decE s = 15) := Lib.hid (by rw [hE.out, if_neg (by omega), if_pos hmr])
      have hne : ¬ R = ByteArray.empty := fun e => by
        rw [e] at hrs
        have h0 : ByteArray.empty.size = 0 := rfl
        have := hrs.out
        omega
      have hps : 0 < R.size := by rw [hrs.out]; omega
      go_wp2_with (first | (refine wpList_build_v rfl 42 rfl _ (run_zero _) ?_) | (refine wpList_store_row rfl 42 _ _ rfl rfl w.heap.size rfl zero53 zero53 42 HB3.out rfl rfl zero_one (msg_size _ rfl) ?_; intro wz hBz hmz))
      exact bodyPost_ret (results_cell_tmp rfl _ _ w.heap.size _ _ _ _ rfl hBz Try.underlying42 rfl (msg_size _ rfl)) rfl (hgz.out 15 (by exact HN3.out) hmz ⟨HE.out, by decide⟩ rfl)
    · obtain rfl : R = ByteArray.empty := by
        have h0 : R.size = 0 := by rw [hrs.out]; omega
        simpa using h0
      have hmk : MarksAt w2 { decM k T p with cap := cap } := ⟨hA.nil, hA.len, hA.big, hA.cells⟩
      have hA3 := Lib.hid (marks_below hmk Hb3.out)
      have hmy := Lib.hid (mayr_calls C { decM k T p with cap := cap } w3 hM hA3.out (cap_rg (dec_rg k T p ⟨by omega, by omega⟩) cap))
      have hme : mayB ({ decM k T p with cap := cap } : MV) = mayB (decM k T none) := rfl
      rw [hme] at hmy
      have HM := Lib.hid hM
      have Hp := Lib.hid hp
      have HE : Hid (decE s = if mayB (decM k T none) = true then 0 else 15) := Lib.hid (by rw [hE.out, if_neg (by omega), if_neg hmr])
      clear hM hp hA hmk hme
      cases hX : mayB (decM k T none) with
      | true =>
        rw [hX] at hmy HE
        have HE0 : Hid (decE s = 0) := Lib.hid (HE.out.trans (if_pos rfl))
        have hld := Lib.hid (run_load_row' (P := Try.prog) w3 w2.heap.size 42 C 42 _ HC3.out Try.underlying42 rfl hcs.out.2.2)
        go_wp2_with (first | (refine wpList_load_v (by rfl) 42 _ rfl ⟨w2.heap.size, 0, none⟩ rfl _ hld.out ?_))
        refine hmy.out.mono ?_
        rintro e w4 ⟨rfl, hb4⟩
        replace HB := Lib.hid (HB3.out.mod ((Mod.refl (fun _ => False) _).after hb4) (fun h => h))
        have HC4 := Lib.hid (HC3.out.mod ((Mod.refl (fun _ => False) _).after hb4) (fun h => h))
        have hbN4 := HN3.out.trans (hb4.mono HN3.out.size)
        have hld4 := Lib.hid (run_load_row' (P := Try.prog) w4 w2.heap.size 42 C 42 _ HC4.out Try.underlying42 rfl hcs.out.2.2)
        have hA4 := Lib.hid (marks_below hA3.out hb4)
        go_wp2_with (first | (refine wpList_load_v rfl 42 _ rfl ⟨w2.heap.size, 0, none⟩ rfl _ hld4.out ?_) | (refine wpList_store_row rfl 42 _ _ rfl rfl w.heap.size rfl zero53 C 42 HB.out rfl (by exact hcs.out.1) hcs.out.2.1 hcs.out.2.2 ?_; intro wz hBz hmz))
        (try simp only [Exit.inBlock, Exit.then])
        refine bodyPost_ret (results_cell_tmp rfl _ _ w.heap.size _ _ _ _ rfl hBz Try.underlying42 rfl hcs.out.2.2) rfl ⟨C, p, cap, by rw [HE0.out]; rfl, hbN4.trans (hmz.below hbN4.size (fun _ h => Nat.le_of_eq h.symm)), ?_, ?_⟩
        · rw [hR.out p HE0.out]
          exact HM.out
        · rw [hR.out p HE0.out]
          refine hA4.out.mod hmz ?_
          intro q hq hbq
          have := Hp.out q hq
          have := hz1.out
          have := HL.out
          omega
      | false =>
        rw [hX] at hmy HE
        have hld := Lib.hid (run_load_row' (P := Try.prog) w3 w2.heap.size 42 C 42 _ HC3.out Try.underlying42 rfl hcs.out.2.2)
        go_wp2_with (first | (refine wpList_load_v (by rfl) 42 _ rfl ⟨w2.heap.size, 0, none⟩ rfl _ hld.out ?_))
        refine hmy.out.mono ?_
        rintro e w4 ⟨rfl, hb4⟩
        replace HB := Lib.hid (HB3.out.mod ((Mod.refl (fun _ => False) _).after hb4) (fun h => h))
        have hbN4 := HN3.out.trans (hb4.mono HN3.out.size)
        go_wp2_with (first | (refine wpList_build_v rfl 42 rfl _ (run_zero _) ?_) | (refine wpList_store_row rfl 42 _ _ rfl rfl w.heap.size rfl zero53 zero53 42 HB.out rfl rfl zero_one (msg_size _ rfl) ?_; intro wz hBz hmz))
        (try simp only [Exit.inBlock, Exit.then])
        exact bodyPost_ret (results_cell_tmp rfl _ _ w.heap.size _ _ _ _ rfl hBz Try.underlying42 rfl (msg_size _ rfl)) rfl (hgz.out 15 hbN4 hmz ⟨HE.out, by decide⟩ rfl)
end Go.Proofs.Ytcipdimnbleljaa
