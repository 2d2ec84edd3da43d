/-
  The law FrameKnown, walked: it returns true.
-/
import Derived.Test.YtgkfmcmnlpapcaaFrPlain
import Derived.Deep.OwnRows
namespace Go.Proofs.Ytgkfmcmnlpapcaa
open Go.RowKit Frm

/-- 'string(make([]byte, n))' -/
theorem zeros_calls (w : World) (n : Nat) (hn : n ≤ 281474976710656) : ∃ (W : World) (Z : ByteArray), (Instr.makeSlice 41 (.int .i64 (n : Int)) (.int .i64 (n : Int))).run Try.prog w = .ok (.slice (some ⟨w.heap.size, 0, none⟩) n n) W ∧
    (convert 41 9 (.slice (some ⟨w.heap.size, 0, none⟩) n n)).run Try.prog W = .ok (.string Z) W ∧ Z.size = n ∧ Below w.heap.size w W := by
  refine ⟨w.alloc (.cells (madeCells #[.int .u8 0] n) 5), strOfNums (List.replicate n 0), ?_, ?_, by simp [strOfNums_size], (Below.refl _ _).alloc (Nat.le_refl _) _⟩
  · exact run_make_row' 41 5 (.int .u8 0) 1 Try.underlying41 (by kernel_rfl) rfl .i64 .i64 n (by omega) (by omega) w
  · refine run_convert_bytes_arg _ _ _ Try.underlying41 Try.underlying5 _ _ _ _ _ (by simp) ?_ _ Try.underlying9
    intro i hi
    rw [World.cell?_alloc_new]
    simp [madeCells, hi, Nat.mod_one]

set_option maxHeartbeats 2000000 in
set_option maxRecDepth 100000 in
theorem FrameKnown_calls (w : World) :
    Calls Try.prog 8 #[] w fun e w' => e = .returned (.bool true) ∧ Below w.heap.size w w' := by
  obtain ⟨W0, Z, hmk, hcv, hz, hb0⟩ := zeros_calls w 65536 (by omega)
  have hmk' : (Instr.makeSlice 41 (.int .i64 65536) (.int .i64 65536)).run Try.prog w = .ok (.slice (some ⟨w.heap.size, 0, none⟩) 65536 65536) W0 := hmk
  clear hmk
  have hz1 : (1 : Int) ≤ Z.size := by omega
  have hz2 : (255 : Int) ≤ Z.size := by omega
  have hL : (Z.extract 1 Z.size).size = 65535 := by simp; omega
  have hC : (Z.extract 0 255).size = 255 := by simp; omega
  have e0 : layE 255 (Z.extract 1 Z.size) = 0 := layE_ok (by omega) (by omega) (by omega)
  have e1 := layS_size e0
  have e2 : (layS 255 (Z.extract 1 Z.size)).size = 65538 := by omega
  have k1 := Lib.hid fun w => eq2 (lay_calls 255 (Z.extract 1 Z.size) w (by unfold maxLen; omega)) (v' := .tuple #[.string (layS 255 (Z.extract 1 Z.size)), .int .i64 0]) (by rw [e0])
  have k2 := Lib.hid fun w => eq2 (lay_calls 1 Z w (by unfold maxLen; omega)) (v' := .tuple #[.string (layS 1 Z), .int .i64 3]) (by rw [show layE 1 Z = 3 by unfold layE; rw [if_neg (by omega), if_pos (by omega)]])
  have k3 := Lib.hid fun w => eq2 (lay_calls 256 Z w (by unfold maxLen; omega)) (v' := .tuple #[.string (layS 256 Z), .int .i64 2]) (by rw [show layE 256 Z = 2 by unfold layE; rw [if_pos (by omega)]])
  have k4 := Lib.hid fun w => eq2 (parse_calls (layS 255 (Z.extract 1 Z.size)) w (by unfold maxLen; omega)) (v' := .tuple #[.int .i64 255, .string (Z.extract 1 Z.size), .int .i64 0]) (by rw [laid_parE e0, laid_parK e0, laid_parB e0])
  have k5 := Lib.hid fun w => eq2 (parse_calls ⟨#[]⟩ w (by decide)) (v' := .tuple #[.int .i64 0, .string ⟨#[]⟩, .int .i64 14]) (by kernel_rfl)
  have k6 := Lib.hid fun w => eq2 (parse_calls ⟨#[0, 0, 0]⟩ w (by decide)) (v' := .tuple #[.int .i64 0, .string ⟨#[]⟩, .int .i64 0]) (by kernel_rfl)
  have k7 := Lib.hid fun w => eq2 (parse_calls ⟨#[0, 0]⟩ w (by decide)) (v' := .tuple #[.int .i64 0, .string ⟨#[]⟩, .int .i64 14]) (by kernel_rfl)
  have hz8 : (⟨#[0, 1, 0]⟩ ++ Z.extract 0 255 : ByteArray).size = 258 := by rw [ByteArray.size_append, hC]; rfl
  have hz9 : (⟨#[0, 1, 0]⟩ : ByteArray).size = 3 := rfl
  have hl8 : len (⟨#[0, 1, 0]⟩ ++ Z.extract 0 255) = 256 := by rw [more_len (by decide)]; decide
  have hp8 : parE (⟨#[0, 1, 0]⟩ ++ Z.extract 0 255) = 14 := (bad_all (by simp only [ok, decide_eq_false_iff_not]; omega)).1
  have k8 := Lib.hid fun w => eq2 (parse_calls (⟨#[0, 1, 0]⟩ ++ Z.extract 0 255) w (by unfold maxLen; omega)) (v' := .tuple #[.int .i64 (parK (⟨#[0, 1, 0]⟩ ++ Z.extract 0 255)), .string (parB (⟨#[0, 1, 0]⟩ ++ Z.extract 0 255)), .int .i64 14]) (by rw [hp8])
  have i0 : ∀ h, ((layS 255 (Z.extract 1 Z.size))[0]'h).toNat = 255 := by
    intro h
    have e := layS_ok e0
    have : (layS 255 (Z.extract 1 Z.size))[0]'(by omega) = UInt8.ofNat 255 := by simp only [e]; exact hd _ _ _ _ 0 (by omega) _
    rw [this]; rfl
  have i1 : ∀ h, ((layS 255 (Z.extract 1 Z.size))[1]'h).toNat = 255 := by
    intro h
    have e := layS_ok e0
    have : (layS 255 (Z.extract 1 Z.size))[1]'(by omega) = UInt8.ofNat (((65535 : Int) / 256).toNat) := by simp only [e]; rw [hd _ _ _ _ 1 (by omega) _, hL]; rfl
    rw [this]; rfl
  have i2 : ∀ h, ((layS 255 (Z.extract 1 Z.size))[2]'h).toNat = 255 := by
    intro h
    have e := layS_ok e0
    have : (layS 255 (Z.extract 1 Z.size))[2]'(by omega) = UInt8.ofNat (((65535 : Int) % 256).toNat) := by simp only [e]; rw [hd _ _ _ _ 2 (by omega) _, hL]; rfl
    rw [this]; rfl
  have n0 : 0 < (layS 255 (Z.extract 1 Z.size)).size := by omega
  have n1 : (1 : Int) < (layS 255 (Z.extract 1 Z.size)).size := by omega
  have n2 : (2 : Int) < (layS 255 (Z.extract 1 Z.size)).size := by omega
  have n3 : ((layS 255 (Z.extract 1 Z.size)).size : Int) = 65538 := by omega
  clear hz hL hz8 hz9 hl8 hp8
  generalize hS : layS 255 (Z.extract 1 Z.size) = S at *
  generalize hLl : Z.extract 1 Z.size = L at *
  generalize hCc : Z.extract 0 255 = C at *
  clear e0 e1 hS e2
  have I0 := i0 (by omega)
  have I1 := i1 (by omega)
  have I2 := i2 (by omega)
  clear i0 i1 i2
  have HC := Lib.hid hC
  have HL := Lib.hid hLl
  have HCc := Lib.hid hCc
  clear hC hLl hCc
  go_enter Try.func8, Try.ntmps8
  go_wp2_with fail
  rw [HL.out]
  refine (k1.out _).mono ?_
  rintro e w1 ⟨rfl, hb1⟩
  go_wp2_with fail
  refine (k2.out _).mono ?_
  rintro e w2 ⟨rfl, hb2⟩
  go_wp2_with fail
  refine (k3.out _).mono ?_
  rintro e w3 ⟨rfl, hb3⟩
  go_wp2_with fail
  refine (k4.out _).mono ?_
  rintro e w4 ⟨rfl, hb4⟩
  go_wp2_with fail
  refine (k5.out _).mono ?_
  rintro e w5 ⟨rfl, hb5⟩
  go_wp2_with fail
  refine (k6.out _).mono ?_
  rintro e w6 ⟨rfl, hb6⟩
  go_wp2_with fail
  refine (k7.out _).mono ?_
  rintro e w7 ⟨rfl, hb7⟩
  go_wp2_with fail
  rw [HCc.out]
  refine (k8.out _).mono ?_
  rintro e w8 ⟨rfl, hb8⟩
  have hb : Below w.heap.size w w8 := bt (bt (bt (bt (bt (bt (bt (bt hb0 hb1) hb2) hb3) hb4) hb5) hb6) hb7) hb8
  clear k1 k2 k3 k4 k5 k6 k7 k8 hcv hmk' hb0 hb1 hb2 hb3 hb4 hb5 hb6 hb7 hb8
  generalize parK ({ data := #[0, 1, 0] } ++ C) = pk
  generalize parB ({ data := #[0, 1, 0] } ++ C) = pb
  go_wp2_with fail
  refine (works_calls _).mono ?_
  rintro e w9 ⟨rfl, hb9⟩
  have hLl := HL.out
  clear HCc
  go_wp2
  go_ret
  exact ⟨rfl, bt hb hb9⟩
end Go.Proofs.Ytgkfmcmnlpapcaa
