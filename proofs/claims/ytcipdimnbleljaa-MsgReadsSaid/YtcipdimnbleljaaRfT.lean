/-
  The document's side of layer 18: all of Decode; bytes are read as the document says.
-/
import Derived.Test.YtcipdimnbleljaaRfS
import Derived.Test.YtcipdimnbleljaaRfH
namespace Go.Proofs.Ytcipdimnbleljaa
open Go.RowKit
open Extern.Stop (cell)

theorem len_of {s : ByteArray} (h : 3 ≤ s.size) : Frm.len s = 256 * s[1].toNat + s[2].toNat := by unfold Frm.len; rw [dif_pos h]
theorem par_short {s : ByteArray} (h : s.size < 3 ∨ s.size < 3 + Frm.len s) : Frm.parE s = 14 := by
  have e : Frm.ok s = false := decide_eq_false (by omega)
  unfold Frm.parE
  rw [e]
  rfl
theorem par_more {s : ByteArray} (h3 : 3 ≤ s.size) (h : 3 + Frm.len s < s.size) : Frm.parE s = 15 := by
  have e : Frm.ok s = true := decide_eq_true (by omega)
  unfold Frm.parE Frm.splR
  rw [if_pos e, if_pos e, if_neg (by rw [ByteArray.size_extract]; omega)]
theorem par_ok {s : ByteArray} (h3 : 3 ≤ s.size) (h : 3 + Frm.len s = s.size) : Frm.parE s = 0 ∧ Frm.parK s = s[0].toNat ∧ Frm.parB s = s.extract 3 s.size := by
  have e : Frm.ok s = true := decide_eq_true (by omega)
  have e0 : Frm.parE s = 0 := by
    unfold Frm.parE Frm.splR
    rw [if_pos e, if_pos e, if_pos (by rw [ByteArray.size_extract]; omega)]
  refine ⟨e0, ?_, ?_⟩
  · unfold Frm.parK Frm.splK
    rw [if_pos e0, dif_pos e]
  · unfold Frm.parB Frm.splB
    rw [if_pos e0, if_pos e, h]
theorem decE_par {s : ByteArray} {x : Int} (h : Frm.parE s = x) (h0 : x ≠ 0) : decE s = x ∧ x ≠ 0 := ⟨by unfold decE; rw [h, if_pos h0], h0⟩
theorem decE_kind {s : ByteArray} (h : Frm.parE s = 0) (hk : Frm.parK s < 1 ∨ 5 < Frm.parK s) : decE s = 15 ∧ (15 : Int) ≠ 0 := ⟨by unfold decE; rw [h, if_neg (by simp), if_pos hk], by decide⟩

theorem decd_calls (s : ByteArray) (w : World) (hs : s.size ≤ 140737488351232) : Calls Try.prog 26 #[.string s] w (DecD s w) := by
  by_cases h3 : s.size < 3
  · exact (decd_short s w h3).mono fun e' w' h => by obtain ⟨rfl, hb⟩ := h; exact decd_zero (decE_par (par_short (.inl h3)) (by decide)) hb rfl
  have h3' : 3 ≤ s.size := by omega
  have hle := len_of h3'
  by_cases hl : s.size < 3 + (256 * s[1].toNat + s[2].toNat)
  · exact (decd_len s w hs h3' hl).mono fun e' w' h => by obtain ⟨rfl, hb⟩ := h; exact decd_zero (decE_par (par_short (.inr (by rw [hle]; exact hl))) (by decide)) hb rfl
  by_cases hm : 3 + (256 * s[1].toNat + s[2].toNat) < s.size
  · exact (decd_more s w hs h3' hl hm).mono fun e' w' h => by obtain ⟨rfl, hb⟩ := h; exact decd_zero (decE_par (par_more h3' (by rw [hle]; exact hm)) (by decide)) hb rfl
  obtain ⟨p0, pk, pb⟩ := par_ok h3' (by rw [hle]; omega)
  by_cases hk1 : s[0].toNat < 1
  · exact (decd_low s w hs h3' hl hm hk1).mono fun e' w' h => by obtain ⟨rfl, hb⟩ := h; exact decd_zero (decE_kind p0 (.inl (by rw [pk]; omega))) hb rfl
  by_cases hk5 : 5 < s[0].toNat
  · exact (decd_high s w hs h3' hl hm hk5).mono fun e' w' h => by obtain ⟨rfl, hb⟩ := h; exact decd_zero (decE_kind p0 (.inr (by rw [pk]; omega))) hb rfl
  refine decd_read s w hs h3' hl hm (by omega) (by omega) _ rfl _ rfl (Lib.hid ?_) (Lib.hid fun p h => ?_)
  · unfold decE
    rw [p0, pk, pb, if_neg (by simp), if_neg (by omega)]
  · unfold decR
    rw [if_pos h, pk, pb]

theorem alB_p (m : MV) (p : Option Addr) (c : Nat) (q : Option Addr) (d : Nat) : alB { m with p := p, cap := c } { m with p := q, cap := d } = true := by
  unfold alB
  simp
theorem decR_alike (s : ByteArray) (p q : Option Addr) (c : Nat) : alB (decR s p) { decR s q with cap := c } = true := by
  unfold decR
  split
  · exact alB_p (decM (Frm.parK s) (Frm.parB s) none) _ _ _ _
  · exact alB_p zeroM _ _ _ _

set_option maxHeartbeats 2000000 in
set_option maxRecDepth 100000 in
/-- bytes are read as the document says -/
theorem reads_calls (s : ByteArray) (w : World) (hs : s.size ≤ 140737488351232) : Calls Try.prog 16 #[.string s] w fun e w' => e = .returned (.bool true) ∧ Below w.heap.size w w' := by
  have h1 := Lib.hid (decode_calls s w hs)
  have h2 := Lib.hid (fun wx => decd_calls s wx hs)
  go_enter Try.func16, Try.ntmps16
  go_wp2_with fail
  refine h1.out.mono ?_
  rintro e w1 ⟨C, p, rfl, hb1, hM, hA, _⟩
  have hsC := Lib.hid (show zero53.size = C.size by rw [hM.size]; rfl)
  have h1C := Lib.hid (msg_one hM)
  have hzC := Lib.hid (msg_size C hM.size)
  have HM := Lib.hid hM
  have HA := Lib.hid hA
  clear hM hA
  go_upto_region 2 with (refine wpList_store_new rfl 42 _ _ rfl rfl rfl _ C _ rfl (by exact hsC.out) h1C.out hzC.out ?_)
  refine wp_world' (fun wx => Blk wx w1.heap.size C 42 ∧ MarksAt wx (decR s p) ∧ Below w.heap.size w wx)
    ⟨Blk.new _ _ _, marks_below HA.out (new_below _ _), hb1.alloc hb1.size _⟩ ?_
  rintro w2 ⟨hB2, hA2, hb2⟩
  generalize w1.heap.size = g at *
  replace HB := Lib.hid hB2
  replace HA := Lib.hid hA2
  clear hB2 hA2 hb1 h1
  go_wp2_with fail
  refine (h2.out _).mono ?_
  rintro e w3 ⟨D, q, c, rfl, hb3, hN, hZ⟩
  have hsD := Lib.hid (show zero53.size = D.size by rw [hN.size]; rfl)
  have h1D := Lib.hid (msg_one hN)
  have hzD := Lib.hid (msg_size D hN.size)
  replace HB := Lib.hid (HB.out.mod ((Mod.refl (fun _ => False) _).after hb3) (fun h => h))
  replace HA := Lib.hid (marks_below HA.out hb3)
  have hb4 := hb2.trans (hb3.mono hb2.size)
  have HN := Lib.hid hN
  have HZ := Lib.hid hZ
  clear hN hZ hb2 hb3 h2
  go_upto_region 3 with (refine wpList_store_new rfl 42 _ _ rfl rfl rfl _ D _ rfl (by exact hsD.out) h1D.out hzD.out ?_)
  refine wp_world' (fun wx => Blk wx g C 42 ∧ Blk wx w3.heap.size D 42 ∧ MarksAt wx (decR s p) ∧ MarksAt wx { decR s q with cap := c } ∧ Below w.heap.size w wx)
    ⟨HB.out.alloc _, Blk.new _ _ _, marks_below HA.out (new_below _ _), marks_below HZ.out (new_below _ _), hb4.alloc hb4.size _⟩ ?_
  rintro w4 ⟨hB4, hD4, hA4, hZ4, hb5⟩
  generalize w3.heap.size = g2 at *
  have hld1 := Lib.hid (run_load_row' (P := Try.prog) w4 g 42 C 42 _ hB4 Try.underlying42 rfl hzC.out)
  have hld2 := Lib.hid (run_load_row' (P := Try.prog) w4 g2 42 D 42 _ hD4 Try.underlying42 rfl hzD.out)
  have hsm := same_calls C D (decR s p) { decR s q with cap := c } w4 HM.out HN.out hA4.mks hZ4.mks
  rw [decR_alike] at hsm
  have Hsm := Lib.hid hsm
  clear hsm hB4 hD4 hA4 hZ4 HA HB HZ HM HN hb4
  generalize decE s = E
  have q2 : (E == E) = true := by simp
  go_wp2_with (first | (refine wpList_load_v (by kernel_rfl) 42 _ rfl ⟨g, 0, none⟩ rfl _ hld1.out ?_) | (refine wpList_load_v (by kernel_rfl) 42 _ rfl ⟨g2, 0, none⟩ rfl _ hld2.out ?_))
  refine Hsm.out.mono ?_
  rintro e w5 ⟨rfl, hb6⟩
  go_wp2_with fail
  go_ret
  exact ⟨rfl, hb5.trans (hb6.mono hb5.size)⟩
end Go.Proofs.Ytcipdimnbleljaa
