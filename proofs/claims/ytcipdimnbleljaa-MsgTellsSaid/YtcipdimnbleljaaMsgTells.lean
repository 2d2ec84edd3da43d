/-
  'MsgTells': it returns true.
-/
import Derived.Test.YtcipdimnbleljaaRfK
import Derived.Test.YtcipdimnbleljaaMsgLong
namespace Go.Proofs.Ytcipdimnbleljaa
open Go.ChangeShapes Go.WideShapes Go.ChangeAt Go.RowKit
open Extern.Stop (cell)

theorem cells_take (l : List (Int × List UInt8)) (k : Nat) {j : Nat} {v : Value} (h : (mkCells (l.take k))[j]? = some v) : (mkCells l)[j]? = some v := by
  have e : mkCells l = mkCells (l.take k) ++ mkCells (l.drop k) := by rw [← mkCells_append, List.take_append_drop]
  rw [e, List.getElem?_append_left (List.getElem?_eq_some_iff.1 h).1]
  exact h
theorem marks_take {w : World} {m : MV} (h : MarksAt w m) (k : Nat) : MarksAt w { m with ms := m.ms.take k } :=
  ⟨(fun hp => by show m.ms.take k = []; rw [h.nil hp, List.take_nil]), (fun x hx => h.len x (List.mem_of_mem_take hx)), (by show (m.ms.take k).length ≤ _; rw [List.length_take]; have := h.big; omega), fun a ha j v hj => h.cells a ha j v (cells_take m.ms k hj)⟩
theorem msgD_pt {d : DV} {p : Option Addr} {c : Nat} {q : Addr} (h : (msgD d p c).p = some q) : p = some q := by
  unfold msgD at h
  simp only at h
  split at h
  · exact h
  · cases h
theorem rg_take {m : MV} (h : MsgRg m) (k : Nat) : MsgRg { m with ms := m.ms.take k } :=
  ⟨h.kind, h.round, h.carrier, h.req, h.reserve, h.rq, (fun x hx => h.ms x (List.mem_of_mem_take hx)), h.bid, h.nonce, h.state, h.winner, h.price⟩

set_option maxHeartbeats 4000000 in
set_option maxRecDepth 100000 in
theorem MsgTells_walk (C0 : Array Value) (d0 : DV) (k0 k1 : Int) (CM : Array Value) (mm : MV) (w : World) (h0 : DraftOf C0 d0) (r0 : DraftRg d0) (a0 : BysAt w d0.p d0.bs) (hk1 : I64 k1) (hM : MsgOf CM mm) (hA : MarksAt w mm) (hR : MsgRg mm) (hcap : mm.ms.length ≤ mm.cap) :
    Calls Try.prog 3 #[.agg C0, .agg #[.int .i64 k0, .int .i64 k1], .agg CM] w fun e w' => e = .returned (.bool true) ∧ Below w.heap.size w w' := by
  have HW := Lib.hid works_calls
  have hs0 := h0.size
  have hm0 := Lib.hid (fun wx (h : Below w.heap.size w wx) => draft_calls C0 d0 wx h0 r0 (a0.below h))
  have hi0 : (Try.prog.info? 28).map (·.size) = some C0.size := by rw [hs0]; kernel_rfl
  have hld0 := Lib.hid (fun wx (h : Blk wx w.heap.size C0 28) => run_load_row' (P := Try.prog) wx w.heap.size 28 C0 28 _ h Try.underlying28 rfl hi0)
  have hbig := hA.big
  replace hi0 := Lib.hid hi0
  clear hs0 h0 a0
  go_enter Try.func3, Try.ntmps3
  go_upto_region 1 with fail
  refine wp_world' (fun wx => Blk wx w.heap.size C0 28 ∧ Blk wx (w.heap.size + 1) #[.int .i64 k0, .int .i64 k1] 29 ∧ Blk wx (w.heap.size + 2) CM 42 ∧ Below w.heap.size w wx)
    ⟨((Blk.new w C0 _).alloc _).alloc _, (Blk.new' w _ _ _).alloc _, blk_new3 w _ _ _ _, (((Below.refl _ _).alloc (Nat.le_refl _) _).alloc (by simp) _).alloc (by simp; omega) _⟩ ?_
  rintro w0 ⟨hB0, hBk, hBM, hb0⟩
  have HB0 := Lib.hid hB0
  have HBk := Lib.hid hBk
  have HBM := Lib.hid hBM
  clear hB0 hBk hBM
  go_wp2_with (refine wpList_load_v rfl 28 _ rfl ⟨w.heap.size, 0, none⟩ rfl _ (hld0.out _ HB0.out) ?_)
  refine (hm0.out _ hb0).mono ?_
  rintro e w1 ⟨M0, p0, c0, rfl, hb1, hM0, hA0, hfr⟩
  have Hfr := Lib.hid (fun q (h : p0 = some q) => (show w.heap.size + 2 ≠ q.block from by have := hfr q h; have := HBM.out.lt; omega))
  clear hfr
  have hone := Lib.hid (msg_one hM0)
  have hsz := Lib.hid (msg_size M0 hM0.size)
  have hnew := Lib.hid (show zero53.size = M0.size by rw [hM0.size]; rfl)
  have hb2 := hb0.trans (hb1.mono hb0.size)
  have HM0 := Lib.hid hM0
  have HA0 := Lib.hid hA0
  clear hM0 hA0
  go_upto_region 2 with (refine wpList_store_new rfl 42 _ _ rfl rfl rfl _ M0 _ rfl (by exact hnew.out) hone.out hsz.out ?_)
  refine wp_world' (fun wx => Blk wx w1.heap.size M0 42 ∧ MarksAt wx (msgD d0 p0 c0) ∧ Blk wx (w.heap.size + 1) #[.int .i64 k0, .int .i64 k1] 29 ∧ Blk wx (w.heap.size + 2) CM 42 ∧ Below w.heap.size w wx)
    ⟨Blk.new _ _ _, marks_below HA0.out (new_below _ _), (HBk.out.mod ((Mod.refl (fun _ => False) _).after hb1) (fun h => h)).alloc _, (HBM.out.mod ((Mod.refl (fun _ => False) _).after hb1) (fun h => h)).alloc _, hb2.alloc hb2.size _⟩ ?_
  rintro w2 ⟨hG2, hA2, hK2, hM2, hb3⟩
  have hgg : w.heap.size + 2 < w1.heap.size := Nat.lt_of_lt_of_le HBM.out.lt hb1.size
  generalize w1.heap.size = g at *
  have c47 := hM2.cell hM.h47
  have f47 := hM2.froz 47
  have HG := Lib.hid hG2
  have HK := Lib.hid hK2
  have HM2 := Lib.hid hM2
  clear HB0 HBk HBM hb0 hb1 hb2 hm0 hld0 hone hnew hG2 hK2 hM2 HA0
  by_cases hle : (mm.ms.length : Int) ≤ 40
  · have hlN : mm.ms.length ≤ 40 := by omega
    have hmi : min (mm.ms.length : Int) 40 = mm.ms.length := by omega
    have hcI : (mm.ms.length : Int) ≤ mm.cap := by omega
    go_upto_region 3 with fail
    have hof5 := set_ms hM (mm.ms.take 40) mm.p mm.cap
    have hl5 : (mm.ms.take 40).length = mm.ms.length := by rw [List.length_take]; omega
    rw [hl5] at hof5
    have hA5 := marks_take hA 40
    have hR5 := rg_take hR 40
    replace hof5 : MsgOf (CM.setIfInBounds 47 (.slice mm.p mm.ms.length mm.cap)) { mm with ms := mm.ms.take 40 } := hof5
    generalize hm5 : ({ mm with ms := mm.ms.take 40 } : MV) = m5 at hof5 hA5 hR5
    generalize hD5 : CM.setIfInBounds 47 (.slice mm.p mm.ms.length mm.cap) = D5 at hof5
    replace hl5 := Lib.hid hl5
    refine wp_world' (fun wx => Blk wx g M0 42 ∧ MarksAt wx (msgD d0 p0 c0) ∧ Blk wx (w.heap.size + 1) #[.int .i64 k0, .int .i64 k1] 29 ∧ Blk wx (w.heap.size + 2) D5 42 ∧ Below w.heap.size w wx)
      ⟨HG.out.other (by show g ≠ w.heap.size + 2; omega) _, ?_, HK.out.other (by show w.heap.size + 1 ≠ w.heap.size + 2; omega) _, by rw [← hD5]; exact HM2.out.set 47 _, hb3.setCell (by show w.heap.size ≤ w.heap.size + 2; omega) _⟩ ?_
    · exact hA2.mod ((Mod.refl (fun x => x = w.heap.size + 2) _).setCell (fun _ => rfl) _) (fun a ha e => (Hfr.out a (msgD_pt ha)) e.symm)
    rintro w3 ⟨hG3, hA3, hK3, hD3, hb3⟩
    clear HG HK HM2 c47 f47 hA2
    have after : ∀ wx, Below w3.heap.size w3 wx → Mod (fun _ => False) w3 wx := fun wx h => (Mod.refl _ _).after h
    have hl7 := Lib.hid (fun wx (h : Below w3.heap.size w3 wx) => run_load_row' (P := Try.prog) wx g 42 M0 42 _ (hG3.mod (after wx h) (fun h => h)) Try.underlying42 rfl hsz.out)
    have hl5 := Lib.hid (fun wx (h : Below w3.heap.size w3 wx) => run_load_row' (P := Try.prog) wx (w.heap.size + 2) 42 D5 42 _ (hD3.mod (after wx h) (fun h => h)) Try.underlying42 rfl (msg_size _ hof5.size))
    have hK := Lib.hid (fun wx (h : Below w3.heap.size w3 wx) => hK3.mod (after wx h) (fun h => h))
    have hy0 := Lib.hid (fun wx (h : Below w3.heap.size w3 wx) => lays_calls M0 _ wx HM0.out (marks_below hA3 h) (good_draft r0 p0 c0).rg)
    have hy5 := Lib.hid (fun wx (h : Below w3.heap.size w3 wx) => lays_calls D5 m5 wx hof5 (marks_below (marks_below hA5 hb3) h) hR5)
    have htu := Lib.hid (fun wx (h : Below w3.heap.size w3 wx) => turned_calls M0 _ wx (IntKind.u8.wrap k0) k1 HM0.out (marks_below hA3 h) (good_draft r0 p0 c0).rg (by have := marks_le8 r0; show (msgD d0 none 0).ms.length ≤ 100; omega) (by show 0 ≤ k0 % 256 ∧ k0 % 256 < 256; omega) hk1)
    clear hG3 hA3 hK3 hD3 hof5 hA5 hR5 after HM0 hsz
    go_wp2_with (refine wpList_load_v rfl 42 _ rfl ⟨g, 0, none⟩ rfl _ (hl7.out _ (Below.refl _ _)) ?_)
    refine (hy0.out _ (Below.refl _ _)).mono ?_
    rintro e w4 ⟨rfl, hb4⟩
    have q0 := (hK.out _ hb4).cell (i := 0) rfl
    have q1 := (hK.out _ hb4).cell (i := 1) rfl
    clear hy0
    go_wp2_with (refine wpList_load_v rfl 42 _ rfl ⟨g, 0, none⟩ rfl _ (hl7.out _ hb4) ?_)
    refine (htu.out _ hb4).mono ?_
    rintro e w5 ⟨D6, m6, rfl, hM6, hA6, hR6, hb5⟩
    replace hb5 := hb4.trans (hb5.mono hb4.size)
    have hy6 := Lib.hid (lays_calls D6 m6 w5 hM6 hA6 hR6)
    clear q0 q1 htu hM6 hA6 hR6 hl7 hb4
    go_wp2_with fail
    refine hy6.out.mono ?_
    rintro e w6 ⟨rfl, hb6⟩
    replace hb6 := hb5.trans (hb6.mono hb5.size)
    clear hy6 hb5
    go_wp2_with (refine wpList_load_v rfl 42 _ rfl ⟨w.heap.size + 2, 0, none⟩ rfl _ (hl5.out _ hb6) ?_)
    refine (hy5.out _ hb6).mono ?_
    rintro e w7 ⟨rfl, hb7⟩
    replace hb7 := hb6.trans (hb7.mono hb6.size)
    clear hl5 hy5 hb6
    go_wp2_with fail
    refine (HW.out _).mono ?_
    rintro e w8 ⟨rfl, hb8⟩
    have hb9 := hb3.trans ((hb7.trans (hb8.mono hb7.size)).mono hb3.size)
    go_wp2_with fail
    go_ret
    exact ⟨rfl, hb9⟩
  · have hlN : 40 < mm.ms.length := by omega
    have hmi : min (mm.ms.length : Int) 40 = 40 := by omega
    have hcI : (40 : Int) ≤ mm.cap := by omega
    go_upto_region 3 with fail
    have hof5 := set_ms hM (mm.ms.take 40) mm.p mm.cap
    have hl5 : (mm.ms.take 40).length = 40 := by rw [List.length_take]; omega
    rw [hl5] at hof5
    have hA5 := marks_take hA 40
    have hR5 := rg_take hR 40
    replace hof5 : MsgOf (CM.setIfInBounds 47 (.slice mm.p 40 mm.cap)) { mm with ms := mm.ms.take 40 } := hof5
    generalize hm5 : ({ mm with ms := mm.ms.take 40 } : MV) = m5 at hof5 hA5 hR5
    generalize hD5 : CM.setIfInBounds 47 (.slice mm.p 40 mm.cap) = D5 at hof5
    replace hl5 := Lib.hid hl5
    refine wp_world' (fun wx => Blk wx g M0 42 ∧ MarksAt wx (msgD d0 p0 c0) ∧ Blk wx (w.heap.size + 1) #[.int .i64 k0, .int .i64 k1] 29 ∧ Blk wx (w.heap.size + 2) D5 42 ∧ Below w.heap.size w wx)
      ⟨HG.out.other (by show g ≠ w.heap.size + 2; omega) _, ?_, HK.out.other (by show w.heap.size + 1 ≠ w.heap.size + 2; omega) _, by rw [← hD5]; exact HM2.out.set 47 _, hb3.setCell (by show w.heap.size ≤ w.heap.size + 2; omega) _⟩ ?_
    · exact hA2.mod ((Mod.refl (fun x => x = w.heap.size + 2) _).setCell (fun _ => rfl) _) (fun a ha e => (Hfr.out a (msgD_pt ha)) e.symm)
    rintro w3 ⟨hG3, hA3, hK3, hD3, hb3⟩
    clear HG HK HM2 c47 f47 hA2
    have after : ∀ wx, Below w3.heap.size w3 wx → Mod (fun _ => False) w3 wx := fun wx h => (Mod.refl _ _).after h
    have hl7 := Lib.hid (fun wx (h : Below w3.heap.size w3 wx) => run_load_row' (P := Try.prog) wx g 42 M0 42 _ (hG3.mod (after wx h) (fun h => h)) Try.underlying42 rfl hsz.out)
    have hl5 := Lib.hid (fun wx (h : Below w3.heap.size w3 wx) => run_load_row' (P := Try.prog) wx (w.heap.size + 2) 42 D5 42 _ (hD3.mod (after wx h) (fun h => h)) Try.underlying42 rfl (msg_size _ hof5.size))
    have hK := Lib.hid (fun wx (h : Below w3.heap.size w3 wx) => hK3.mod (after wx h) (fun h => h))
    have hy0 := Lib.hid (fun wx (h : Below w3.heap.size w3 wx) => lays_calls M0 _ wx HM0.out (marks_below hA3 h) (good_draft r0 p0 c0).rg)
    have hy5 := Lib.hid (fun wx (h : Below w3.heap.size w3 wx) => lays_calls D5 m5 wx hof5 (marks_below (marks_below hA5 hb3) h) hR5)
    have htu := Lib.hid (fun wx (h : Below w3.heap.size w3 wx) => turned_calls M0 _ wx (IntKind.u8.wrap k0) k1 HM0.out (marks_below hA3 h) (good_draft r0 p0 c0).rg (by have := marks_le8 r0; show (msgD d0 none 0).ms.length ≤ 100; omega) (by show 0 ≤ k0 % 256 ∧ k0 % 256 < 256; omega) hk1)
    clear hG3 hA3 hK3 hD3 hof5 hA5 hR5 after HM0 hsz
    go_wp2_with (refine wpList_load_v rfl 42 _ rfl ⟨g, 0, none⟩ rfl _ (hl7.out _ (Below.refl _ _)) ?_)
    refine (hy0.out _ (Below.refl _ _)).mono ?_
    rintro e w4 ⟨rfl, hb4⟩
    have q0 := (hK.out _ hb4).cell (i := 0) rfl
    have q1 := (hK.out _ hb4).cell (i := 1) rfl
    clear hy0
    go_wp2_with (refine wpList_load_v rfl 42 _ rfl ⟨g, 0, none⟩ rfl _ (hl7.out _ hb4) ?_)
    refine (htu.out _ hb4).mono ?_
    rintro e w5 ⟨D6, m6, rfl, hM6, hA6, hR6, hb5⟩
    replace hb5 := hb4.trans (hb5.mono hb4.size)
    have hy6 := Lib.hid (lays_calls D6 m6 w5 hM6 hA6 hR6)
    clear q0 q1 htu hM6 hA6 hR6 hl7 hb4
    go_wp2_with fail
    refine hy6.out.mono ?_
    rintro e w6 ⟨rfl, hb6⟩
    replace hb6 := hb5.trans (hb6.mono hb5.size)
    clear hy6 hb5
    go_wp2_with (refine wpList_load_v rfl 42 _ rfl ⟨w.heap.size + 2, 0, none⟩ rfl _ (hl5.out _ hb6) ?_)
    refine (hy5.out _ hb6).mono ?_
    rintro e w7 ⟨rfl, hb7⟩
    replace hb7 := hb6.trans (hb7.mono hb6.size)
    clear hl5 hy5 hb6
    go_wp2_with fail
    refine (HW.out _).mono ?_
    rintro e w8 ⟨rfl, hb8⟩
    have hb9 := hb3.trans ((hb7.trans (hb8.mono hb7.size)).mono hb3.size)
    go_wp2_with fail
    go_ret
    exact ⟨rfl, hb9⟩
end Go.Proofs.Ytcipdimnbleljaa
