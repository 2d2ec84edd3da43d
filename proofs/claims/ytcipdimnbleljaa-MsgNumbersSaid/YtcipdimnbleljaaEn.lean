/-
  Layer 18 (msg): Encode.
-/
import Derived.Test.YtcipdimnbleljaaMayD
import Derived.Test.YtcipdimnbleljaaWw
namespace Go.Proofs.Ytcipdimnbleljaa
open Go.RowKit
open Extern.Stop (cell)

def encE (m : MV) : Int := if mayB m = true then 0 else 15
def encS (m : MV) : ByteArray := if mayB m = true then Frm.layS m.kind (bodyS m) else ByteArray.empty
theorem wrN_length (ns : List (Int × Nat)) : (wrN ns).length = (ns.map (·.2)).sum := by
  induction ns with
  | nil => rfl
  | cons x r ih =>
    show (be x.1 x.2 ++ wrN r).length = _
    rw [List.length_append, be_length, ih, List.map_cons, List.sum_cons]
theorem bodyS_size (m : MV) : (bodyS m).size = ((numsOf m).map (·.2)).sum := by rw [bodyS, strOfNums_size, wrN_length]
theorem ones_sum (l : List UInt8) : ((ones l).map (·.2)).sum = l.length := by
  induction l with
  | nil => rfl
  | cons b r ih =>
    show ((((b.toNat : Int), 1) :: ones r).map (·.2)).sum = _
    rw [List.map_cons, List.sum_cons, ih, List.length_cons]
    omega
theorem marks_sum (ms : List (Int × List UInt8)) (h : ∀ x ∈ ms, x.2.length = 32) : ((ms.flatMap fun x => (x.1, 1) :: ones x.2).map (·.2)).sum = 33 * ms.length := by
  induction ms with
  | nil => rfl
  | cons x r ih =>
    rw [List.flatMap_cons, List.map_append, List.sum_append, ih (fun y hy => h y (by simp [hy]))]
    rw [List.map_cons, List.sum_cons, ones_sum, h x (by simp), List.length_cons]
    omega
/-- how long a message is -/
def lenOf (m : MV) : Nat := if m.kind = 1 then 34 else if m.kind = 2 then 34 else if m.kind = 3 then 2 + 33 * m.ms.length else if m.kind = 4 then 18 else 11
theorem bodyS_len (m : MV) (hd : m.dg.length = 32) (hm : ∀ x ∈ m.ms, x.2.length = 32) : (bodyS m).size = lenOf m := by
  rw [bodyS_size, numsOf, lenOf, List.map_cons, List.sum_cons]
  by_cases h1 : m.kind = 1
  · rw [if_pos h1, if_pos h1]; rfl
  · rw [if_neg h1, if_neg h1]
    by_cases h2 : m.kind = 2
    · rw [if_pos h2, if_pos h2, List.map_cons, List.sum_cons, ones_sum, hd]; rfl
    · rw [if_neg h2, if_neg h2]
      by_cases h3 : m.kind = 3
      · rw [if_pos h3, if_pos h3, List.map_cons, List.sum_cons, marks_sum _ hm]; omega
      · rw [if_neg h3, if_neg h3]
        by_cases h4 : m.kind = 4
        · rw [if_pos h4, if_pos h4]; rfl
        · rw [if_neg h4, if_neg h4]; rfl
theorem lenOf_le {m : MV} (h : mayB m = true) : lenOf m ≤ 266 := by
  unfold lenOf
  by_cases h3 : m.kind = 3
  · have := riseB_le8 (may_3 h h3).1
    rw [if_neg (by omega), if_neg (by omega), if_pos h3]
    omega
  · repeat (first | omega | split)
theorem may_lays {m : MV} (h : mayB m = true) (hd : m.dg.length = 32) (hm : ∀ x ∈ m.ms, x.2.length = 32) : Frm.layE m.kind (bodyS m) = 0 := by
  have := lenOf_le h
  have hk := may_kind h
  unfold Frm.layE
  rw [bodyS_len m hd hm, if_neg (by omega), if_neg (by omega)]

set_option maxHeartbeats 2000000 in
set_option maxRecDepth 100000 in
theorem encode_calls (C : Array Value) (m : MV) (w : World) (hM : MsgOf C m) (hA : MarksAt w m) (hR : MsgRg m) :
    Calls Try.prog 17 #[.agg C] w fun e w' => e = .returned (.tuple #[.string (encS m), .int .i64 (encE m)]) ∧ Below w.heap.size w w' := by
  have hb0 := (Below.refl w.heap.size w).alloc (Nat.le_refl _) (.cells C 42)
  have hB := Lib.hid (Blk.new w C 42)
  have hA1 := marks_below hA hb0
  have hmy := Lib.hid (may_calls C m (w.alloc (.cells C 42)) hM hA1 hR)
  have hsz := Lib.hid (show (Try.prog.info? 42).map (·.size) = some C.size by rw [hM.size]; kernel_rfl)
  have HM := Lib.hid hM
  have HA1 := Lib.hid hA1
  have HA := Lib.hid hA
  have HR := Lib.hid hR
  clear hM hA hA1 hR
  by_cases hmay : mayB m = true
  · rw [encS, encE, if_pos hmay, if_pos hmay]
    rw [hmay] at hmy
    go_enter Try.func17, Try.ntmps17
    go_wp2_with (first | (refine wpList_load_row rfl 42 _ rfl w.heap.size rfl 42 C (0, 0) _ hB.out Try.underlying42 rfl hsz.out ?_))
    refine hmy.out.mono ?_
    rintro e w1 ⟨rfl, hb1⟩
    have hB1 := hB.out.mod ((Mod.refl (fun _ => False) _).after hb1) (fun h => h)
    have hA2 := marks_below HA1.out hb1
    have hlt := hB1.lt
    have hb2 := hb0.trans (hb1.mono (by simp))
    have hma : ∀ a, m.p = some a → m.ms ≠ [] → a.block < w.heap.size := fun a ha hne => by
      cases hms : m.ms with
      | nil => exact absurd hms hne
      | cons x r =>
        have := World.block_lt_of_cell? _ _ (HA.out.cells a ha 0 (.int .i64 x.1) (by rw [hms]; rfl))
        simpa [Addr.add] using this
    have HB1 := Lib.hid hB1
    have HA2 := Lib.hid hA2
    have Hma := Lib.hid hma
    clear hB1 hA2 hma
    go_wp2_with fail
    refine (walk_w w1.heap.size w.heap.size m C 42 _ HM.out (marks_below HA2.out ((Below.refl _ _).alloc (Nat.le_refl _) _)) HR.out hmay (Blk.new _ _ _) (HB1.out.alloc _) (by omega) (fun a ha hne => by have := Hma.out a ha hne; omega)).mono ?_
    rintro e w2 ⟨rfl, hm2, hW2, C', hN2, hC0⟩
    have hs := bodyS_len m HM.out.l15 HA.out.len
    have hl := lenOf_le hmay
    have hlays := Lib.hid (may_lays hmay HM.out.l15 HA.out.len)
    generalize hsb : bodyS m = s at hs hW2 hlays ⊢
    replace hsb := Lib.hid hsb
    have k0 : ∀ x : Later (fun _ => False) w2, x.val.cell? ⟨w.heap.size, 0, none⟩ = some (.int .i64 m.kind) := fun x => x.cell (hN2.cell hC0) (fun h => h)
    have ks : ∀ x : Later (fun _ => False) w2, x.val.cell? ⟨w1.heap.size, 0, none⟩ = some (.string s) := fun x => x.cell (hW2.cell rfl) (fun h => h)
    have hss : s.size ≤ maxLen := by unfold maxLen; omega
    have hfin : Below w.heap.size w w2 := by
      refine ((hb2.alloc hb2.size (.cells #[.string ByteArray.empty] 75))).trans (hm2.below (by simp; omega) ?_)
      rintro k (rfl | rfl)
      · exact hb2.size
      · exact Nat.le_refl _
    replace hN2 := Lib.hid hN2
    replace hW2 := Lib.hid hW2
    replace hC0 := Lib.hid hC0
    clear hs hl
    go_wp2_with fail
    refine wp_region_later (Mod.refl (fun _ => False) _) (by kernel_rfl) (by kernel_rfl) ?_
    repeat (go_big_quiet_step ((go_at_call 29; exact Calls.later (lay_calls _ _ _ hss))))
    refine wpQuiet_nil ?_
    rintro _ ⟨x, rfl⟩
    go_wp2
    go_ret2
    exact ⟨by rw [hlays.out, hsb.out]; rfl, hfin.trans (x.mod.below hfin.size (fun _ h => h.elim))⟩
  · rw [encS, encE, if_neg hmay, if_neg hmay]
    rw [Bool.not_eq_true _ |>.mp hmay] at hmy
    go_enter Try.func17, Try.ntmps17
    go_wp2_with (first | (refine wpList_load_row rfl 42 _ rfl w.heap.size rfl 42 C (0, 0) _ hB.out Try.underlying42 rfl hsz.out ?_))
    refine hmy.out.mono ?_
    rintro e w1 ⟨rfl, hb1⟩
    have hb2 := hb0.trans (hb1.mono (by simp))
    go_wp2_with fail
    go_ret2
    exact ⟨rfl, hb2⟩
end Go.Proofs.Ytcipdimnbleljaa
