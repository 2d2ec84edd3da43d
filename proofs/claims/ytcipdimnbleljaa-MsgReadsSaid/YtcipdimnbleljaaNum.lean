/-
  Layer 16 (octet): the program's Reader.Num for the widths 1, 2, 4, 8.
-/
import Derived.Test.YtcipdimnbleljaaRd
namespace Go.Proofs.Ytcipdimnbleljaa
open Go.RowKit

set_option maxHeartbeats 400000 in
theorem num1_calls (b c : Nat) (s : ByteArray) (a : Nat) (bad : Bool) (w : World) (h : Rd w b c s a bad) :
    Calls Try.prog 85 #[.pointer (some ⟨b, 0, none⟩), .int .i64 1] w fun e w' => e = .returned (.int .u64 (rdNum s a bad 1)) ∧ Rd w' b c s (rdAt s a bad 1) (rdBad s a bad 1) ∧ Mod (· = b) w w' := by
  have h0 := h.row.cell (i := 0) rfl
  have h1 := h.row.cell (i := 1) rfl
  have h2 := h.row.cell (i := 2) rfl
  have h3 := h.row.cell (i := 3) rfl
  have hf3 := h.row.froz 3
  have hs := h.small
  have ha := h.inn
  cases bad
  · by_cases hk : s.size < a + 1
    · have e1 : rdBad s a false 1 = true := by simp [rdBad, hk]
      have e2 : rdAt s a false 1 = a := by simp [rdAt, e1]
      have e3 : rdNum s a false 1 = 0 := by simp [rdNum, e1]
      rw [e1, e2, e3]
      clear e1 e2 e3
      have hst := Lib.hid (step_fails b c s a 1 _ h.again hk)
      go_enter Try.func85, Try.ntmps85
      go_wp2_with fail
      refine (wide_calls 1 _ (by omega) (by omega)).mono ?_
      rintro e w' ⟨rfl, rfl⟩
      go_wp2_with fail
      refine hst.out.mono ?_
      rintro e w1 ⟨rfl, hr, hm⟩
      go_wp2
      exact bodyPost_ret (v := .int .u64 0) (by simp [results, Try.results85, go_sem]) rfl ⟨rfl, hr, (mod_cell _ _ _ _).trans hm⟩
    · have e1 : rdBad s a false 1 = false := by simp [rdBad, hk]
      have e2 : rdAt s a false 1 = a + 1 := by simp [rdAt, e1]
      have e3 : rdNum s a false 1 = numAt s a 1 := by simp [rdNum, e1]
      rw [e1, e2, e3]
      clear e1 e2 e3
      have hst := Lib.hid (step_calls b c s a 1 _ h.again (by omega))
      have hk' : a + 1 ≤ s.size := by omega
      go_enter Try.func85, Try.ntmps85
      go_wp2_with fail
      refine (wide_calls 1 _ (by omega) (by omega)).mono ?_
      rintro e w' ⟨rfl, rfl⟩
      go_wp2_with fail
      refine hst.out.mono ?_
      rintro e w1 ⟨rfl, hr, hm⟩
      have g0 := hr.row.cell (i := 0) rfl
      have g1 := hr.row.cell (i := 1) rfl
      have k0 : ∀ x : Later (fun _ => False) w1, x.val.cell? ⟨b, 0, none⟩ = some (.string s) := fun x => x.cell g0 (by simp)
      have k1 : ∀ x : Later (fun _ => False) w1, x.val.cell? ⟨b, 1, none⟩ = some (.int .i64 ((a + 1 : Nat) : Int)) := fun x => x.cell g1 (by simp)
      go_wp2
      refine wp_region_later (Mod.refl (fun _ => False) _) (by kernel_rfl) (by kernel_rfl) ?_
      repeat (go_big_quiet_step ((go_at_call 86; exact Calls.later (get1_calls s a _ (by omega) _ hs hk'))))
      refine wpQuiet_nil ?_
      rintro _ ⟨x, rfl⟩
      go_wp2
      exact bodyPost_ret (v := .int .u64 (numAt s a 1)) (by simp [results, Try.results85, go_sem]) rfl ⟨rfl, hr.mod x.mod (by simp) (by simp), (mod_cell _ _ _ _).trans (hm.trans (x.mod.mono (by simp)))⟩
  · have e1 : rdBad s a true 1 = true := by simp [rdBad]
    have e2 : rdAt s a true 1 = a := by simp [rdAt, e1]
    have e3 : rdNum s a true 1 = 0 := by simp [rdNum, e1]
    rw [e1, e2, e3]
    clear e1 e2 e3
    have hst := Lib.hid (step_bad b c s a 1 _ h.again)
    go_enter Try.func85, Try.ntmps85
    go_wp2_with fail
    refine hst.out.mono ?_
    rintro e w1 ⟨rfl, hr, hm⟩
    go_wp2
    exact bodyPost_ret (v := .int .u64 0) (by simp [results, Try.results85, go_sem]) rfl ⟨rfl, hr, (mod_cell _ _ _ _).trans hm⟩

set_option maxHeartbeats 400000 in
theorem num2_calls (b c : Nat) (s : ByteArray) (a : Nat) (bad : Bool) (w : World) (h : Rd w b c s a bad) :
    Calls Try.prog 85 #[.pointer (some ⟨b, 0, none⟩), .int .i64 2] w fun e w' => e = .returned (.int .u64 (rdNum s a bad 2)) ∧ Rd w' b c s (rdAt s a bad 2) (rdBad s a bad 2) ∧ Mod (· = b) w w' := by
  have h0 := h.row.cell (i := 0) rfl
  have h1 := h.row.cell (i := 1) rfl
  have h2 := h.row.cell (i := 2) rfl
  have h3 := h.row.cell (i := 3) rfl
  have hf3 := h.row.froz 3
  have hs := h.small
  have ha := h.inn
  cases bad
  · by_cases hk : s.size < a + 2
    · have e1 : rdBad s a false 2 = true := by simp [rdBad, hk]
      have e2 : rdAt s a false 2 = a := by simp [rdAt, e1]
      have e3 : rdNum s a false 2 = 0 := by simp [rdNum, e1]
      rw [e1, e2, e3]
      clear e1 e2 e3
      have hst := Lib.hid (step_fails b c s a 2 _ h.again hk)
      go_enter Try.func85, Try.ntmps85
      go_wp2_with fail
      refine (wide_calls 2 _ (by omega) (by omega)).mono ?_
      rintro e w' ⟨rfl, rfl⟩
      go_wp2_with fail
      refine hst.out.mono ?_
      rintro e w1 ⟨rfl, hr, hm⟩
      go_wp2
      exact bodyPost_ret (v := .int .u64 0) (by simp [results, Try.results85, go_sem]) rfl ⟨rfl, hr, (mod_cell _ _ _ _).trans hm⟩
    · have e1 : rdBad s a false 2 = false := by simp [rdBad, hk]
      have e2 : rdAt s a false 2 = a + 2 := by simp [rdAt, e1]
      have e3 : rdNum s a false 2 = numAt s a 2 := by simp [rdNum, e1]
      rw [e1, e2, e3]
      clear e1 e2 e3
      have hst := Lib.hid (step_calls b c s a 2 _ h.again (by omega))
      have hk' : a + 2 ≤ s.size := by omega
      go_enter Try.func85, Try.ntmps85
      go_wp2_with fail
      refine (wide_calls 2 _ (by omega) (by omega)).mono ?_
      rintro e w' ⟨rfl, rfl⟩
      go_wp2_with fail
      refine hst.out.mono ?_
      rintro e w1 ⟨rfl, hr, hm⟩
      have g0 := hr.row.cell (i := 0) rfl
      have g1 := hr.row.cell (i := 1) rfl
      have k0 : ∀ x : Later (fun _ => False) w1, x.val.cell? ⟨b, 0, none⟩ = some (.string s) := fun x => x.cell g0 (by simp)
      have k1 : ∀ x : Later (fun _ => False) w1, x.val.cell? ⟨b, 1, none⟩ = some (.int .i64 ((a + 2 : Nat) : Int)) := fun x => x.cell g1 (by simp)
      go_wp2
      refine wp_region_later (Mod.refl (fun _ => False) _) (by kernel_rfl) (by kernel_rfl) ?_
      repeat (go_big_quiet_step ((go_at_call 86; exact Calls.later (get2_calls s a _ (by omega) _ hs hk'))))
      refine wpQuiet_nil ?_
      rintro _ ⟨x, rfl⟩
      go_wp2
      exact bodyPost_ret (v := .int .u64 (numAt s a 2)) (by simp [results, Try.results85, go_sem]) rfl ⟨rfl, hr.mod x.mod (by simp) (by simp), (mod_cell _ _ _ _).trans (hm.trans (x.mod.mono (by simp)))⟩
  · have e1 : rdBad s a true 2 = true := by simp [rdBad]
    have e2 : rdAt s a true 2 = a := by simp [rdAt, e1]
    have e3 : rdNum s a true 2 = 0 := by simp [rdNum, e1]
    rw [e1, e2, e3]
    clear e1 e2 e3
    have hst := Lib.hid (step_bad b c s a 2 _ h.again)
    go_enter Try.func85, Try.ntmps85
    go_wp2_with fail
    refine hst.out.mono ?_
    rintro e w1 ⟨rfl, hr, hm⟩
    go_wp2
    exact bodyPost_ret (v := .int .u64 0) (by simp [results, Try.results85, go_sem]) rfl ⟨rfl, hr, (mod_cell _ _ _ _).trans hm⟩

set_option maxHeartbeats 400000 in
theorem num4_calls (b c : Nat) (s : ByteArray) (a : Nat) (bad : Bool) (w : World) (h : Rd w b c s a bad) :
    Calls Try.prog 85 #[.pointer (some ⟨b, 0, none⟩), .int .i64 4] w fun e w' => e = .returned (.int .u64 (rdNum s a bad 4)) ∧ Rd w' b c s (rdAt s a bad 4) (rdBad s a bad 4) ∧ Mod (· = b) w w' := by
  have h0 := h.row.cell (i := 0) rfl
  have h1 := h.row.cell (i := 1) rfl
  have h2 := h.row.cell (i := 2) rfl
  have h3 := h.row.cell (i := 3) rfl
  have hf3 := h.row.froz 3
  have hs := h.small
  have ha := h.inn
  cases bad
  · by_cases hk : s.size < a + 4
    · have e1 : rdBad s a false 4 = true := by simp [rdBad, hk]
      have e2 : rdAt s a false 4 = a := by simp [rdAt, e1]
      have e3 : rdNum s a false 4 = 0 := by simp [rdNum, e1]
      rw [e1, e2, e3]
      clear e1 e2 e3
      have hst := Lib.hid (step_fails b c s a 4 _ h.again hk)
      go_enter Try.func85, Try.ntmps85
      go_wp2_with fail
      refine (wide_calls 4 _ (by omega) (by omega)).mono ?_
      rintro e w' ⟨rfl, rfl⟩
      go_wp2_with fail
      refine hst.out.mono ?_
      rintro e w1 ⟨rfl, hr, hm⟩
      go_wp2
      exact bodyPost_ret (v := .int .u64 0) (by simp [results, Try.results85, go_sem]) rfl ⟨rfl, hr, (mod_cell _ _ _ _).trans hm⟩
    · have e1 : rdBad s a false 4 = false := by simp [rdBad, hk]
      have e2 : rdAt s a false 4 = a + 4 := by simp [rdAt, e1]
      have e3 : rdNum s a false 4 = numAt s a 4 := by simp [rdNum, e1]
      rw [e1, e2, e3]
      clear e1 e2 e3
      have hst := Lib.hid (step_calls b c s a 4 _ h.again (by omega))
      have hk' : a + 4 ≤ s.size := by omega
      go_enter Try.func85, Try.ntmps85
      go_wp2_with fail
      refine (wide_calls 4 _ (by omega) (by omega)).mono ?_
      rintro e w' ⟨rfl, rfl⟩
      go_wp2_with fail
      refine hst.out.mono ?_
      rintro e w1 ⟨rfl, hr, hm⟩
      have g0 := hr.row.cell (i := 0) rfl
      have g1 := hr.row.cell (i := 1) rfl
      have k0 : ∀ x : Later (fun _ => False) w1, x.val.cell? ⟨b, 0, none⟩ = some (.string s) := fun x => x.cell g0 (by simp)
      have k1 : ∀ x : Later (fun _ => False) w1, x.val.cell? ⟨b, 1, none⟩ = some (.int .i64 ((a + 4 : Nat) : Int)) := fun x => x.cell g1 (by simp)
      go_wp2
      refine wp_region_later (Mod.refl (fun _ => False) _) (by kernel_rfl) (by kernel_rfl) ?_
      repeat (go_big_quiet_step ((go_at_call 86; exact Calls.later (get4_calls s a _ (by omega) _ hs hk'))))
      refine wpQuiet_nil ?_
      rintro _ ⟨x, rfl⟩
      go_wp2
      exact bodyPost_ret (v := .int .u64 (numAt s a 4)) (by simp [results, Try.results85, go_sem]) rfl ⟨rfl, hr.mod x.mod (by simp) (by simp), (mod_cell _ _ _ _).trans (hm.trans (x.mod.mono (by simp)))⟩
  · have e1 : rdBad s a true 4 = true := by simp [rdBad]
    have e2 : rdAt s a true 4 = a := by simp [rdAt, e1]
    have e3 : rdNum s a true 4 = 0 := by simp [rdNum, e1]
    rw [e1, e2, e3]
    clear e1 e2 e3
    have hst := Lib.hid (step_bad b c s a 4 _ h.again)
    go_enter Try.func85, Try.ntmps85
    go_wp2_with fail
    refine hst.out.mono ?_
    rintro e w1 ⟨rfl, hr, hm⟩
    go_wp2
    exact bodyPost_ret (v := .int .u64 0) (by simp [results, Try.results85, go_sem]) rfl ⟨rfl, hr, (mod_cell _ _ _ _).trans hm⟩

set_option maxHeartbeats 400000 in
theorem num8_calls (b c : Nat) (s : ByteArray) (a : Nat) (bad : Bool) (w : World) (h : Rd w b c s a bad) :
    Calls Try.prog 85 #[.pointer (some ⟨b, 0, none⟩), .int .i64 8] w fun e w' => e = .returned (.int .u64 (rdNum s a bad 8)) ∧ Rd w' b c s (rdAt s a bad 8) (rdBad s a bad 8) ∧ Mod (· = b) w w' := by
  have h0 := h.row.cell (i := 0) rfl
  have h1 := h.row.cell (i := 1) rfl
  have h2 := h.row.cell (i := 2) rfl
  have h3 := h.row.cell (i := 3) rfl
  have hf3 := h.row.froz 3
  have hs := h.small
  have ha := h.inn
  cases bad
  · by_cases hk : s.size < a + 8
    · have e1 : rdBad s a false 8 = true := by simp [rdBad, hk]
      have e2 : rdAt s a false 8 = a := by simp [rdAt, e1]
      have e3 : rdNum s a false 8 = 0 := by simp [rdNum, e1]
      rw [e1, e2, e3]
      clear e1 e2 e3
      have hst := Lib.hid (step_fails b c s a 8 _ h.again hk)
      go_enter Try.func85, Try.ntmps85
      go_wp2_with fail
      refine (wide_calls 8 _ (by omega) (by omega)).mono ?_
      rintro e w' ⟨rfl, rfl⟩
      go_wp2_with fail
      refine hst.out.mono ?_
      rintro e w1 ⟨rfl, hr, hm⟩
      go_wp2
      exact bodyPost_ret (v := .int .u64 0) (by simp [results, Try.results85, go_sem]) rfl ⟨rfl, hr, (mod_cell _ _ _ _).trans hm⟩
    · have e1 : rdBad s a false 8 = false := by simp [rdBad, hk]
      have e2 : rdAt s a false 8 = a + 8 := by simp [rdAt, e1]
      have e3 : rdNum s a false 8 = numAt s a 8 := by simp [rdNum, e1]
      rw [e1, e2, e3]
      clear e1 e2 e3
      have hst := Lib.hid (step_calls b c s a 8 _ h.again (by omega))
      have hk' : a + 8 ≤ s.size := by omega
      go_enter Try.func85, Try.ntmps85
      go_wp2_with fail
      refine (wide_calls 8 _ (by omega) (by omega)).mono ?_
      rintro e w' ⟨rfl, rfl⟩
      go_wp2_with fail
      refine hst.out.mono ?_
      rintro e w1 ⟨rfl, hr, hm⟩
      have g0 := hr.row.cell (i := 0) rfl
      have g1 := hr.row.cell (i := 1) rfl
      have k0 : ∀ x : Later (fun _ => False) w1, x.val.cell? ⟨b, 0, none⟩ = some (.string s) := fun x => x.cell g0 (by simp)
      have k1 : ∀ x : Later (fun _ => False) w1, x.val.cell? ⟨b, 1, none⟩ = some (.int .i64 ((a + 8 : Nat) : Int)) := fun x => x.cell g1 (by simp)
      go_wp2
      refine wp_region_later (Mod.refl (fun _ => False) _) (by kernel_rfl) (by kernel_rfl) ?_
      repeat (go_big_quiet_step ((go_at_call 86; exact Calls.later (get8_calls s a _ (by omega) _ hs hk'))))
      refine wpQuiet_nil ?_
      rintro _ ⟨x, rfl⟩
      go_wp2
      exact bodyPost_ret (v := .int .u64 (numAt s a 8)) (by simp [results, Try.results85, go_sem]) rfl ⟨rfl, hr.mod x.mod (by simp) (by simp), (mod_cell _ _ _ _).trans (hm.trans (x.mod.mono (by simp)))⟩
  · have e1 : rdBad s a true 8 = true := by simp [rdBad]
    have e2 : rdAt s a true 8 = a := by simp [rdAt, e1]
    have e3 : rdNum s a true 8 = 0 := by simp [rdNum, e1]
    rw [e1, e2, e3]
    clear e1 e2 e3
    have hst := Lib.hid (step_bad b c s a 8 _ h.again)
    go_enter Try.func85, Try.ntmps85
    go_wp2_with fail
    refine hst.out.mono ?_
    rintro e w1 ⟨rfl, hr, hm⟩
    go_wp2
    exact bodyPost_ret (v := .int .u64 0) (by simp [results, Try.results85, go_sem]) rfl ⟨rfl, hr, (mod_cell _ _ _ _).trans hm⟩
end Go.Proofs.Ytcipdimnbleljaa
