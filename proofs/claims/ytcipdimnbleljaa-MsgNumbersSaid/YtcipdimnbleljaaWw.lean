/-
  Layer 18 (msg): walk with a writer, of a message that may be.
-/
import Derived.Test.YtcipdimnbleljaaMayL
namespace Go.Proofs.Ytcipdimnbleljaa
open Go.RowKit
open Extern.Stop (cell)

theorem empty_append (s : ByteArray) : ByteArray.empty ++ s = s := by simp
theorem numsOf_1 {m : MV} (h : m.kind = 1) : bodyS m = rqStr (addN (addN (addN ByteArray.empty m.round 1) m.req 1) m.reserve 4) m.rq 10 := by
  have key : ∀ L, addS (addN (addN (addN ByteArray.empty m.round 1) m.req 1) m.reserve 4) L = addS ByteArray.empty ((m.round, 1) :: (m.req, 1) :: (m.reserve, 4) :: L) := fun L => rfl
  rw [rqStr_eq, key, addS_eq, empty_append, bodyS, numsOf, if_pos h]
theorem numsOf_2 {m : MV} (h : m.kind = 2) : bodyS m = addN (addN ByteArray.empty m.round 1) m.carrier 1 ++ strOfNums (byN m.dg) := by
  have key : ∀ L, addS (addN (addN ByteArray.empty m.round 1) m.carrier 1) L = addS ByteArray.empty ((m.round, 1) :: (m.carrier, 1) :: L) := fun L => rfl
  rw [← addS_ones, key, addS_eq, empty_append, bodyS, numsOf, if_neg (by omega), if_pos h]
theorem numsOf_3 {m : MV} (h : m.kind = 3) : bodyS m = mkStr (addN (addN ByteArray.empty m.round 1) m.ms.length 1) (fun i => (m.ms.getD i (0, [])).1) (fun i => byN (m.ms.getD i (0, [])).2) m.ms.length := by
  have key : ∀ L, addS (addN (addN ByteArray.empty m.round 1) m.ms.length 1) L = addS ByteArray.empty ((m.round, 1) :: ((m.ms.length : Int), 1) :: L) := fun L => rfl
  rw [mkStr_eq _ _ _ (Nat.le_refl _), List.take_length, key, addS_eq, empty_append, bodyS, numsOf, if_neg (by omega), if_neg (by omega), if_pos h]
theorem numsOf_4 {m : MV} (h : m.kind = 4) : bodyS m = addN (addN (addN (addN ByteArray.empty m.round 1) m.carrier 1) m.bid 8) m.nonce 8 := by
  show _ = addS ByteArray.empty [(m.round, 1), (m.carrier, 1), (m.bid, 8), (m.nonce, 8)]
  rw [addS_eq, empty_append, bodyS, numsOf, if_neg (by omega), if_neg (by omega), if_neg (by omega), if_pos h]
theorem numsOf_5 {m : MV} (h : m.kind = 5) : bodyS m = addN (addN (addN (addN ByteArray.empty m.round 1) m.state 1) (m.winner + 1) 1) m.price 8 := by
  show _ = addS ByteArray.empty [(m.round, 1), (m.state, 1), (m.winner + 1, 1), (m.price, 8)]
  rw [addS_eq, empty_append, bodyS, numsOf, if_neg (by omega), if_neg (by omega), if_neg (by omega), if_neg (by omega)]
theorem cell_num (b : UInt8) : cell b = .int .u8 (b.toNat : Int) := rfl

theorem walk_w (wb nb : Nat) (m : MV) (C : Array Value) (t : TypeId) (w : World) (hM : MsgOf C m) (hA : MarksAt w m) (hR : MsgRg m) (hmay : mayB m = true)
    (hw : Blk w wb #[.string ByteArray.empty] 75) (hn : Blk w nb C t) (hne : nb ≠ wb) (hma : ∀ a, m.p = some a → m.ms ≠ [] → a.block ≠ wb) :
    Calls Try.prog 28 #[.iface 73 (.pointer (some ⟨wb, 0, none⟩)), .pointer (some ⟨nb, 0, none⟩)] w fun e w' =>
      e = .returned (.tuple #[]) ∧ Mod (fun x => x = wb ∨ x = nb) w w' ∧ Blk w' wb #[.string (bodyS m)] 75 ∧ ∃ C', Blk w' nb C' t ∧ C'[0]? = some (.int .i64 m.kind) := by
  have hr := may_round hmay
  have hz : ByteArray.empty.size ≤ 140737488340000 := by show 0 ≤ _; omega
  rcases may_kind hmay with hk | hk | hk | hk | hk
  · obtain ⟨b3, b4, hck, _⟩ := may_1 hmay hk
    rw [numsOf_1 hk, hk]
    exact walk_w1 wb nb _ _ _ _ _ C t w hz hw hn hne (hk ▸ hM.h0) hM.h1 ⟨by omega, by omega⟩ hM.h3 hM.h4 hM.h5 ⟨by omega, by omega⟩ ⟨by omega, by omega⟩ (ckB_rg hck)
  · obtain ⟨b2, _⟩ := may_2 hmay hk
    rw [numsOf_2 hk, hk]
    exact walk_w2 wb nb _ _ _ (byN m.dg) C t w hz hw hn hne (hk ▸ hM.h0) hM.h1 ⟨by omega, by omega⟩ hM.h2 (fun i hi => by rw [byN_getD]; exact hM.h15 i hi) ⟨by omega, by omega⟩ (by rw [byN_length]; exact hM.l15) (byN_bd _)
  · obtain ⟨hrs, _⟩ := may_3 hmay hk
    have h8 := riseB_le8 hrs
    rw [numsOf_3 hk, hk]
    refine walk_w3 wb nb _ _ m.ms.length m.cap m.p (mkCells m.ms) (fun i => (m.ms.getD i (0, [])).1) (fun i => byN (m.ms.getD i (0, [])).2) C t w hz hw hn hne (hk ▸ hM.h0) hM.h1 ⟨by omega, by omega⟩ hM.h47 (by omega)
      (mkCells_length m.ms hA.len) ?_ (fun hp => by rw [hA.nil hp]; rfl) (mkCells_one _) ?_ ?_ ?_ ?_
    · intro j v hj
      cases hp : m.p with
      | none => rw [hA.nil hp] at hj; simp [mkCells] at hj
      | some a =>
        refine ⟨a, rfl, hma a hp (fun h => by rw [h] at hj; simp [mkCells] at hj), hA.cells a hp j v hj⟩
    · intro k hlt
      have e : m.ms.getD k (0, []) = m.ms[k] := by simp [List.getD_eq_getElem?_getD, hlt]
      have := riseB_all m.ms hrs m.ms[k] (List.getElem_mem hlt)
      refine ⟨?_, by rw [e]; omega, by rw [e]; omega⟩
      have h0 := mkCells_at m.ms k 0 m.ms[k] hA.len (List.getElem?_eq_getElem hlt) (by omega)
      rw [Nat.add_zero] at h0
      rw [h0, e]
      rfl
    · intro k hlt
      have e : m.ms.getD k (0, []) = m.ms[k] := by simp [List.getD_eq_getElem?_getD, hlt]
      show (byN (m.ms.getD k (0, [])).2).length = 32
      rw [e, byN_length]
      exact hA.len _ (List.getElem_mem hlt)
    · exact fun k _ => byN_bd _
    · intro k hlt i hi
      have e : m.ms.getD k (0, []) = m.ms[k] := by simp [List.getD_eq_getElem?_getD, hlt]
      have hl := hA.len _ (List.getElem_mem hlt)
      have h0 := mkCells_at m.ms k (1 + i) m.ms[k] hA.len (List.getElem?_eq_getElem hlt) (by omega)
      rw [show k * 33 + 1 + i = k * 33 + (1 + i) by omega, h0, byN_getD, e, Nat.add_comm 1 i]
      simp [markRow, List.getD_eq_getElem?_getD, hl, hi, cell_num]
  · obtain ⟨b2, b48, _⟩ := may_4 hmay hk
    have r48 := hR.bid
    have r49 := hR.nonce
    rw [numsOf_4 hk, hk]
    exact walk_w4 wb nb _ _ _ _ _ C t w hz hw hn hne (hk ▸ hM.h0) hM.h1 ⟨by omega, by omega⟩ hM.h2 hM.h48 hM.h49 ⟨by omega, by omega⟩ r48 r49
  · obtain ⟨ht, _⟩ := may_5 hmay hk
    have rt := toldB_rg ht
    have r52 := hR.price
    rw [numsOf_5 hk, hk]
    exact walk_w5 wb nb _ _ _ _ _ C t w hz hw hn hne (hk ▸ hM.h0) hM.h1 ⟨by omega, by omega⟩ hM.h50 hM.h51 hM.h52 ⟨by omega, by omega⟩ ⟨by omega, by omega⟩ r52
end Go.Proofs.Ytcipdimnbleljaa
