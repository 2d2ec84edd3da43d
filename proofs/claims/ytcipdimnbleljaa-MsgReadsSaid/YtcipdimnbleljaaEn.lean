/-
  Layer 18 (msg): may, whatever the kind.
  Layer 18 (msg): walk with a writer, of a message that may be.
  Layer 18 (msg): Encode.
-/
import Derived.Test.YtcipdimnbleljaaMay1
import Derived.Test.YtcipdimnbleljaaMay2
import Derived.Test.YtcipdimnbleljaaMay3
import Derived.Test.YtcipdimnbleljaaMay4
import Derived.Test.YtcipdimnbleljaaMay5
import Derived.Test.YtcipdimnbleljaaDeP
namespace Go.Proofs.Ytcipdimnbleljaa
open Go.RowKit
open Extern.Stop (cell)

set_option maxHeartbeats 2000000 in
set_option maxRecDepth 100000 in
theorem may0_calls (C : Array Value) (m : MV) (w : World) (hM : MsgOf C m) (h1 : m.kind ≠ 1) (h2 : m.kind ≠ 2) (h3 : m.kind ≠ 3) (h4 : m.kind ≠ 4) (h5 : m.kind ≠ 5) :
    Calls Try.prog 27 #[.agg C] w fun e w' => e = .returned (.bool (mayB m)) ∧ Below w.heap.size w w' := by
  have hX : mayB m = false := by unfold mayB; rw [if_neg h1, if_neg h2, if_neg h3, if_neg h4, if_neg h5, Bool.and_false]
  rw [hX]
  have g0 := hM.h0
  have g1 := hM.h1
  have hw1 := fun w => Lib.hid (within_calls m.round 16 w)
  generalize inB m.round 16 = p1 at hw1
  have i1 : (m.kind == 1) = false := by simpa using h1
  have i2 : (m.kind == 2) = false := by simpa using h2
  have i3 : (m.kind == 3) = false := by simpa using h3
  have i4 : (m.kind == 4) = false := by simpa using h4
  have i5 : (m.kind == 5) = false := by simpa using h5
  clear hX hM h1 h2 h3 h4 h5
  go_enter Try.func27, Try.ntmps27
  go_upto_region 0 with fail
  go_cut [1, 2] (fun s1 s2 wx => s1 = .pointer (some ⟨w.heap.size, 0, none⟩) ∧ Blk wx w.heap.size C 42 ∧ Below w.heap.size w wx)
  case first => as_aux_lemma =>
    go_wp2_with fail
    go_meet
    exact ⟨rfl, Blk.new _ _ _, (Below.refl _ _).alloc (Nat.le_refl _) _⟩
  case rest =>
  obtain ⟨rfl, hB, hb⟩ := hcut
  have k0 := hB.cell g0
  have k1 := hB.cell g1
  go_wp2_with fail
  refine (hw1 _).out.mono ?_
  rintro e w1 ⟨rfl, rfl⟩
  clear hw1 k1
  go_wp2_with fail
  go_ret
  exact ⟨rfl, hb⟩

theorem may_calls (C : Array Value) (m : MV) (w : World) (hM : MsgOf C m) (hA : MarksAt w m) (hR : MsgRg m) :
    Calls Try.prog 27 #[.agg C] w fun e w' => e = .returned (.bool (mayB m)) ∧ Below w.heap.size w w' := by
  by_cases h1 : m.kind = 1
  · exact may1_calls C m w hM hR h1
  · by_cases h2 : m.kind = 2
    · exact may2_calls C m w hM hR h2
    · by_cases h3 : m.kind = 3
      · exact may3_calls C m w hM hA hR h3
      · by_cases h4 : m.kind = 4
        · exact may4_calls C m w hM hR h4
        · by_cases h5 : m.kind = 5
          · exact may5_calls C m w hM hR h5
          · exact may0_calls C m w hM h1 h2 h3 h4 h5
end Go.Proofs.Ytcipdimnbleljaa
namespace Go.Proofs.Ytcipdimnbleljaa
open Go.RowKit
open Extern.Stop (cell)

theorem empty_append (s : ByteArray) : ByteArray.empty ++ s = s := by simp
theorem numsOf_1 {m : MV} (h : m.kind = 1) : bodyS m = rqStr (addN (addN (addN ByteArray.empty m.round 1) m.req 1) m.reserve 4) m.rq 10 := by
  have key : ∀ L, addS (addN (addN (addN ByteArray.empty m.round 1) m.req 1) m.reserve 4) L = addS ByteArray.empty ((m.round, 1) :: (m.req, 1) :: (m.reserve, 4) :: L) := fun L => rfl
  rw [rqStr_eq, key, addS_eq, empty_append, bodyS, numsOf, if_pos h]
theorem numsOf_2 {m : MV} (h : m.kind = 2) : bodyS m = addN (addN ByteArray.empty m.round 1) m.carrier 1 ++ strOfNums (byN m.dg) := by
  have key : ∀ L, addS (addN (addN ByteArray.empty m.round 1) m.carrier 1) L = addS ByteArray.empty ((m.round, 1) :: (m.carrier, 1) :: L) := fun L => rfl
  rw [← addS_ones, key, addS_eq, empty_append, bodyS, numsOf, if_neg (by omega), if_pos h]
theorem numsOf_3 {m : MV} (h : m.kind = 3) : bodyS m = mkStr (addN (addN ByteArray.empty m.round 1) m.ms.length 1) (fun i => (m.ms.getD i (0, [])).1) (fun i => byN (m.ms.getD i (0, [])).2) m.ms.length := by
  have key : ∀ L, addS (addN (addN ByteArray.empty m.round 1) m.ms.length 1) L = addS ByteArray.empty ((m.round, 1) :: ((m.ms.length : Int), 1) :: L) := fun L => rfl
  rw [mkStr_eq _ _ _ (Nat.le_refl _), List.take_length, key, addS_eq, empty_append, bodyS, numsOf, if_neg (by omega), if_neg (by omega), if_pos h]
theorem numsOf_4 {m : MV} (h : m.kind = 4) : bodyS m = addN (addN (addN (addN ByteArray.empty m.round 1) m.carrier 1) m.bid 8) m.nonce 8 := by
  show _ = addS ByteArray.empty [(m.round, 1), (m.carrier, 1), (m.bid, 8), (m.nonce, 8)]
  rw [addS_eq, empty_append, bodyS, numsOf, if_neg (by omega), if_neg (by omega), if_neg (by omega), if_pos h]
theorem numsOf_5 {m : MV} (h : m.kind = 5) : bodyS m = addN (addN (addN (addN ByteArray.empty m.round 1) m.state 1) (m.winner + 1) 1) m.price 8 := by
  show _ = addS ByteArray.empty [(m.round, 1), (m.state, 1), (m.winner + 1, 1), (m.price, 8)]
  rw [addS_eq, empty_append, bodyS, numsOf, if_neg (by omega), if_neg (by omega), if_neg (by omega), if_neg (by omega)]
theorem cell_num (b : UInt8) : cell b = .int .u8 (b.toNat : Int) := rfl

theorem walk_w (wb nb : Nat) (m : MV) (C : Array Value) (t : TypeId) (w : World) (hM : MsgOf C m) (hA : MarksAt w m) (hR : MsgRg m) (hmay : mayB m = true)
    (hw : Blk w wb #[.string ByteArray.empty] 75) (hn : Blk w nb C t) (hne : nb ≠ wb) (hma : ∀ a, m.p = some a → m.ms ≠ [] → a.block ≠ wb) :
    Calls Try.prog 28 #[.iface 73 (.pointer (some ⟨wb, 0, none⟩)), .pointer (some ⟨nb, 0, none⟩)] w fun e w' =>
      e = .returned (.tuple #[]) ∧ Mod (fun x => x = wb ∨ x = nb) w w' ∧ Blk w' wb #[.string (bodyS m)] 75 ∧ ∃ C', Blk w' nb C' t ∧ C'[0]? = some (.int .i64 m.kind) := by
  have hr := may_round hmay
  have hz : ByteArray.empty.size ≤ 140737488340000 := by show 0 ≤ _; omega
  rcases may_kind hmay with hk | hk | hk | hk | hk
  · obtain ⟨b3, b4, hck, _⟩ := may_1 hmay hk
    rw [numsOf_1 hk, hk]
    exact walk_w1 wb nb _ _ _ _ _ C t w hz hw hn hne (hk ▸ hM.h0) hM.h1 ⟨by omega, by omega⟩ hM.h3 hM.h4 hM.h5 ⟨by omega, by omega⟩ ⟨by omega, by omega⟩ (ckB_rg hck)
  · obtain ⟨b2, _⟩ := may_2 hmay hk
    rw [numsOf_2 hk, hk]
    exact walk_w2 wb nb _ _ _ (byN m.dg) C t w hz hw hn hne (hk ▸ hM.h0) hM.h1 ⟨by omega, by omega⟩ hM.h2 (fun i hi => by rw [byN_getD]; exact hM.h15 i hi) ⟨by omega, by omega⟩ (by rw [byN_length]; exact hM.l15) (byN_bd _)
  · obtain ⟨hrs, _⟩ := may_3 hmay hk
    have h8 := riseB_le8 hrs
    rw [numsOf_3 hk, hk]
    refine walk_w3 wb nb _ _ m.ms.length m.cap m.p (mkCells m.ms) (fun i => (m.ms.getD i (0, [])).1) (fun i => byN (m.ms.getD i (0, [])).2) C t w hz hw hn hne (hk ▸ hM.h0) hM.h1 ⟨by omega, by omega⟩ hM.h47 (by omega)
      (mkCells_length m.ms hA.len) ?_ (fun hp => by rw [hA.nil hp]; rfl) (mkCells_one _) ?_ ?_ ?_ ?_
    · intro j v hj
      cases hp : m.p with
      | none => rw [hA.nil hp] at hj; simp [mkCells] at hj
      | some a =>
        refine ⟨a, rfl, hma a hp (fun h => by rw [h] at hj; simp [mkCells] at hj), hA.cells a hp j v hj⟩
    · intro k hlt
      have e : m.ms.getD k (0, []) = m.ms[k] := by simp [List.getD_eq_getElem?_getD, hlt]
      have := riseB_all m.ms hrs m.ms[k] (List.getElem_mem hlt)
      refine ⟨?_, by rw [e]; omega, by rw [e]; omega⟩
      have h0 := mkCells_at m.ms k 0 m.ms[k] hA.len (List.getElem?_eq_getElem hlt) (by omega)
      rw [Nat.add_zero] at h0
      rw [h0, e]
      rfl
    · intro k hlt
      have e : m.ms.getD k (0, []) = m.ms[k] := by simp [List.getD_eq_getElem?_getD, hlt]
      show (byN (m.ms.getD k (0, [])).2).length = 32
      rw [e, byN_length]
      exact hA.len _ (List.getElem_mem hlt)
    · exact fun k _ => byN_bd _
    · intro k hlt i hi
      have e : m.ms.getD k (0, []) = m.ms[k] := by simp [List.getD_eq_getElem?_getD, hlt]
      have hl := hA.len _ (List.getElem_mem hlt)
      have h0 := mkCells_at m.ms k (1 + i) m.ms[k] hA.len (List.getElem?_eq_getElem hlt) (by omega)
      rw [show k * 33 + 1 + i = k * 33 + (1 + i) by omega, h0, byN_getD, e, Nat.add_comm 1 i]
      simp [markRow, List.getD_eq_getElem?_getD, hl, hi, cell_num]
  · obtain ⟨b2, b48, _⟩ := may_4 hmay hk
    have r48 := hR.bid
    have r49 := hR.nonce
    rw [numsOf_4 hk, hk]
    exact walk_w4 wb nb _ _ _ _ _ C t w hz hw hn hne (hk ▸ hM.h0) hM.h1 ⟨by omega, by omega⟩ hM.h2 hM.h48 hM.h49 ⟨by omega, by omega⟩ r48 r49
  · obtain ⟨ht, _⟩ := may_5 hmay hk
    have rt := toldB_rg ht
    have r52 := hR.price
    rw [numsOf_5 hk, hk]
    exact walk_w5 wb nb _ _ _ _ _ C t w hz hw hn hne (hk ▸ hM.h0) hM.h1 ⟨by omega, by omega⟩ hM.h50 hM.h51 hM.h52 ⟨by omega, by omega⟩ ⟨by omega, by omega⟩ r52
end Go.Proofs.Ytcipdimnbleljaa
namespace Go.Proofs.Ytcipdimnbleljaa
open Go.RowKit
open Extern.Stop (cell)

def encE (m : MV) : Int := if mayB m = true then 0 else 15
def encS (m : MV) : ByteArray := if mayB m = true then Frm.layS m.kind (bodyS m) else ByteArray.empty
theorem wrN_length (ns : List (Int × Nat)) : (wrN ns).length = (ns.map (·.2)).sum := by
  induction ns with
  | nil => rfl
  | cons x r ih =>
    show (be x.1 x.2 ++ wrN r).length = _
    rw [List.length_append, be_length, ih, List.map_cons, List.sum_cons]
theorem bodyS_size (m : MV) : (bodyS m).size = ((numsOf m).map (·.2)).sum := by rw [bodyS, strOfNums_size, wrN_length]
theorem ones_sum (l : List UInt8) : ((ones l).map (·.2)).sum = l.length := by
  induction l with
  | nil => rfl
  | cons b r ih =>
    show ((((b.toNat : Int), 1) :: ones r).map (·.2)).sum = _
    rw [List.map_cons, List.sum_cons, ih, List.length_cons]
    omega
theorem marks_sum (ms : List (Int × List UInt8)) (h : ∀ x ∈ ms, x.2.length = 32) : ((ms.flatMap fun x => (x.1, 1) :: ones x.2).map (·.2)).sum = 33 * ms.length := by
  induction ms with
  | nil => rfl
  | cons x r ih =>
    rw [List.flatMap_cons, List.map_append, List.sum_append, ih (fun y hy => h y (by simp [hy]))]
    rw [List.map_cons, List.sum_cons, ones_sum, h x (by simp), List.length_cons]
    omega
/-- how long a message is -/
def lenOf (m : MV) : Nat := if m.kind = 1 then 34 else if m.kind = 2 then 34 else if m.kind = 3 then 2 + 33 * m.ms.length else if m.kind = 4 then 18 else 11
theorem bodyS_len (m : MV) (hd : m.dg.length = 32) (hm : ∀ x ∈ m.ms, x.2.length = 32) : (bodyS m).size = lenOf m := by
  rw [bodyS_size, numsOf, lenOf, List.map_cons, List.sum_cons]
  by_cases h1 : m.kind = 1
  · rw [if_pos h1, if_pos h1]; rfl
  · rw [if_neg h1, if_neg h1]
    by_cases h2 : m.kind = 2
    · rw [if_pos h2, if_pos h2, List.map_cons, List.sum_cons, ones_sum, hd]; rfl
    · rw [if_neg h2, if_neg h2]
      by_cases h3 : m.kind = 3
      · rw [if_pos h3, if_pos h3, List.map_cons, List.sum_cons, marks_sum _ hm]; omega
      · rw [if_neg h3, if_neg h3]
        by_cases h4 : m.kind = 4
        · rw [if_pos h4, if_pos h4]; rfl
        · rw [if_neg h4, if_neg h4]; rfl
theorem lenOf_le {m : MV} (h : mayB m = true) : lenOf m ≤ 266 := by
  unfold lenOf
  by_cases h3 : m.kind = 3
  · have := riseB_le8 (may_3 h h3).1
    rw [if_neg (by omega), if_neg (by omega), if_pos h3]
    omega
  · repeat (first | omega | split)
theorem may_lays {m : MV} (h : mayB m = true) (hd : m.dg.length = 32) (hm : ∀ x ∈ m.ms, x.2.length = 32) : Frm.layE m.kind (bodyS m) = 0 := by
  have := lenOf_le h
  have hk := may_kind h
  unfold Frm.layE
  rw [bodyS_len m hd hm, if_neg (by omega), if_neg (by omega)]

set_option maxHeartbeats 2000000 in
set_option maxRecDepth 100000 in
theorem encode_calls (C : Array Value) (m : MV) (w : World) (hM : MsgOf C m) (hA : MarksAt w m) (hR : MsgRg m) :
    Calls Try.prog 17 #[.agg C] w fun e w' => e = .returned (.tuple #[.string (encS m), .int .i64 (encE m)]) ∧ Below w.heap.size w w' := by
  have hb0 := (Below.refl w.heap.size w).alloc (Nat.le_refl _) (.cells C 42)
  have hB := Lib.hid (Blk.new w C 42)
  have hA1 := marks_below hA hb0
  have hmy := Lib.hid (may_calls C m (w.alloc (.cells C 42)) hM hA1 hR)
  have hsz := Lib.hid (show (Try.prog.info? 42).map (·.size) = some C.size by rw [hM.size]; kernel_rfl)
  have HM := Lib.hid hM
  have HA1 := Lib.hid hA1
  have HA := Lib.hid hA
  have HR := Lib.hid hR
  clear hM hA hA1 hR
  by_cases hmay : mayB m = true
  · rw [encS, encE, if_pos hmay, if_pos hmay]
    rw [hmay] at hmy
    go_enter Try.func17, Try.ntmps17
    go_wp2_with (first | (refine wpList_load_row rfl 42 _ rfl w.heap.size rfl 42 C (0, 0) _ hB.out Try.underlying42 rfl hsz.out ?_))
    refine hmy.out.mono ?_
    rintro e w1 ⟨rfl, hb1⟩
    have hB1 := hB.out.mod ((Mod.refl (fun _ => False) _).after hb1) (fun h => h)
    have hA2 := marks_below HA1.out hb1
    have hlt := hB1.lt
    have hb2 := hb0.trans (hb1.mono (by simp))
    have hma : ∀ a, m.p = some a → m.ms ≠ [] → a.block < w.heap.size := fun a ha hne => by
      cases hms : m.ms with
      | nil => exact absurd hms hne
      | cons x r =>
        have := World.block_lt_of_cell? _ _ (HA.out.cells a ha 0 (.int .i64 x.1) (by rw [hms]; rfl))
        simpa [Addr.add] using this
    have HB1 := Lib.hid hB1
    have HA2 := Lib.hid hA2
    have Hma := Lib.hid hma
    clear hB1 hA2 hma
    go_wp2_with fail
    refine (walk_w w1.heap.size w.heap.size m C 42 _ HM.out (marks_below HA2.out ((Below.refl _ _).alloc (Nat.le_refl _) _)) HR.out hmay (Blk.new _ _ _) (HB1.out.alloc _) (by omega) (fun a ha hne => by have := Hma.out a ha hne; omega)).mono ?_
    rintro e w2 ⟨rfl, hm2, hW2, C', hN2, hC0⟩
    have hs := bodyS_len m HM.out.l15 HA.out.len
    have hl := lenOf_le hmay
    have hlays := Lib.hid (may_lays hmay HM.out.l15 HA.out.len)
    generalize hsb : bodyS m = s at hs hW2 hlays ⊢
    replace hsb := Lib.hid hsb
    have k0 : ∀ x : Later (fun _ => False) w2, x.val.cell? ⟨w.heap.size, 0, none⟩ = some (.int .i64 m.kind) := fun x => x.cell (hN2.cell hC0) (fun h => h)
    have ks : ∀ x : Later (fun _ => False) w2, x.val.cell? ⟨w1.heap.size, 0, none⟩ = some (.string s) := fun x => x.cell (hW2.cell rfl) (fun h => h)
    have hss : s.size ≤ maxLen := by unfold maxLen; omega
    have hfin : Below w.heap.size w w2 := by
      refine ((hb2.alloc hb2.size (.cells #[.string ByteArray.empty] 75))).trans (hm2.below (by simp; omega) ?_)
      rintro k (rfl | rfl)
      · exact hb2.size
      · exact Nat.le_refl _
    replace hN2 := Lib.hid hN2
    replace hW2 := Lib.hid hW2
    replace hC0 := Lib.hid hC0
    clear hs hl
    go_wp2_with fail
    refine wp_region_later (Mod.refl (fun _ => False) _) (by kernel_rfl) (by kernel_rfl) ?_
    repeat (go_big_quiet_step ((go_at_call 29; exact Calls.later (lay_calls _ _ _ hss))))
    refine wpQuiet_nil ?_
    rintro _ ⟨x, rfl⟩
    go_wp2
    go_ret2
    exact ⟨by rw [hlays.out, hsb.out]; rfl, hfin.trans (x.mod.below hfin.size (fun _ h => h.elim))⟩
  · rw [encS, encE, if_neg hmay, if_neg hmay]
    rw [Bool.not_eq_true _ |>.mp hmay] at hmy
    go_enter Try.func17, Try.ntmps17
    go_wp2_with (first | (refine wpList_load_row rfl 42 _ rfl w.heap.size rfl 42 C (0, 0) _ hB.out Try.underlying42 rfl hsz.out ?_))
    refine hmy.out.mono ?_
    rintro e w1 ⟨rfl, hb1⟩
    have hb2 := hb0.trans (hb1.mono (by simp))
    go_wp2_with fail
    go_ret2
    exact ⟨rfl, hb2⟩
end Go.Proofs.Ytcipdimnbleljaa
