/-
  The law FrameBack, walked: it returns true.
-/
import Derived.Test.YtgkfmcmnlpapcaaFrPlain
namespace Go.Proofs.Ytgkfmcmnlpapcaa
open Go.RowKit Frm

set_option maxHeartbeats 2000000 in
set_option maxRecDepth 100000 in
theorem FrameBack_calls (k : Int) (wk : (Lit.int .u8 k).wf = true) (b : ByteArray) (hb : b.size ≤ maxLen) (s : ByteArray) (hs : s.size ≤ maxLen) (w : World) :
    Calls Try.prog 5 #[.int .u8 k, .string b, .string s] w fun e w' => e = .returned (.bool true) ∧ Below w.heap.size w w' := by
  have hk : 0 ≤ k ∧ k ≤ 255 := by simpa [Lit.wf, IntKind.min, IntKind.max, IntKind.signed, IntKind.bits] using wk
  have hk0 := hk.1
  have hk1 := hk.2
  clear hk wk
  have kl := Lib.hid fun w => lay_calls k b w hb
  have kp := Lib.hid fun w => parse_calls s w hs
  have hb' : (b.size : Int) ≤ 9223372036854775807 := by unfold maxLen at hb; omega
  by_cases h2 : b.size ≤ 65535
  · have e0 := layE_ok hk0 hk1 h2
    have e1 := layS_size e0
    have k1 := Lib.hid fun w => eq2 (parse_calls (layS k b) w (by rw [e1]; unfold maxLen; omega)) (v' := .tuple #[.int .i64 k, .string b, .int .i64 0]) (by rw [laid_parE e0, laid_parK e0, laid_parB e0])
    have hl : ((layS k b).size : Int) = 3 + b.size := by omega
    have hl2 : (b.size : Int) ≤ 65535 := by omega
    rw [e0] at kl
    clear e0 e1 h2
    by_cases h3 : parE s = 0
    · obtain ⟨q0, q1⟩ := par_back h3
      have hbs : (parB s).size ≤ maxLen := by have := (layE_zero q0).2.2; unfold maxLen; omega
      have k2 := Lib.hid fun w => eq2 (lay_calls (parK s) (parB s) w hbs) (v' := .tuple #[.string s, .int .i64 0]) (by rw [q1, q0])
      rw [h3] at kp
      clear q0 q1 h3 hbs hs hb
      go_enter Try.func5, Try.ntmps5
      go_wp2_with fail
      refine (works_calls _).mono ?_
      rintro e w0 ⟨rfl, hb0⟩
      go_wp2_with fail
      refine (kl.out _).mono ?_
      rintro e w1 ⟨rfl, hb1⟩
      go_wp2_with fail
      refine (k1.out _).mono ?_
      rintro e w2 ⟨rfl, hb2⟩
      go_wp2_with fail
      refine (kp.out _).mono ?_
      rintro e w3 ⟨rfl, hb3⟩
      go_wp2_with fail
      refine (k2.out _).mono ?_
      rintro e w4 ⟨rfl, hb4⟩
      go_wp2
      go_ret
      exact ⟨rfl, (bt (bt (bt (bt hb0 hb1) hb2) hb3) hb4)⟩
    · obtain ⟨q0, q1⟩ := par_bad h3
      rw [q0, q1] at kp
      have h4 : (parE s != 0) = true := by simpa using h3
      clear q0 q1 h3 hs hb
      go_enter Try.func5, Try.ntmps5
      go_wp2_with fail
      refine (works_calls _).mono ?_
      rintro e w0 ⟨rfl, hb0⟩
      go_wp2_with fail
      refine (kl.out _).mono ?_
      rintro e w1 ⟨rfl, hb1⟩
      go_wp2_with fail
      refine (k1.out _).mono ?_
      rintro e w2 ⟨rfl, hb2⟩
      go_wp2_with fail
      refine (kp.out _).mono ?_
      rintro e w3 ⟨rfl, hb3⟩
      go_wp2
      go_ret
      exact ⟨rfl, (bt (bt (bt hb0 hb1) hb2) hb3)⟩
  · have e0 : layE k b = 3 := by unfold layE; rw [if_neg (by omega), if_pos (by omega)]
    have e1 : layS k b = ByteArray.empty := by unfold layS; rw [e0]; rfl
    rw [e0, e1] at kl
    have hl2 : ¬ (b.size : Int) ≤ 65535 := by omega
    clear e0 e1 h2
    by_cases h3 : parE s = 0
    · obtain ⟨q0, q1⟩ := par_back h3
      have hbs : (parB s).size ≤ maxLen := by have := (layE_zero q0).2.2; unfold maxLen; omega
      have k2 := Lib.hid fun w => eq2 (lay_calls (parK s) (parB s) w hbs) (v' := .tuple #[.string s, .int .i64 0]) (by rw [q1, q0])
      rw [h3] at kp
      clear q0 q1 h3 hbs hs hb
      go_enter Try.func5, Try.ntmps5
      go_wp2_with fail
      refine (works_calls _).mono ?_
      rintro e w0 ⟨rfl, hb0⟩
      go_wp2_with fail
      refine (kl.out _).mono ?_
      rintro e w1 ⟨rfl, hb1⟩
      go_wp2_with fail
      refine (kp.out _).mono ?_
      rintro e w2 ⟨rfl, hb2⟩
      go_wp2_with fail
      refine (k2.out _).mono ?_
      rintro e w3 ⟨rfl, hb3⟩
      go_wp2
      go_ret
      exact ⟨rfl, (bt (bt (bt hb0 hb1) hb2) hb3)⟩
    · obtain ⟨q0, q1⟩ := par_bad h3
      rw [q0, q1] at kp
      have h4 : (parE s != 0) = true := by simpa using h3
      clear q0 q1 h3 hs hb
      go_enter Try.func5, Try.ntmps5
      go_wp2_with fail
      refine (works_calls _).mono ?_
      rintro e w0 ⟨rfl, hb0⟩
      go_wp2_with fail
      refine (kl.out _).mono ?_
      rintro e w1 ⟨rfl, hb1⟩
      go_wp2_with fail
      refine (kp.out _).mono ?_
      rintro e w2 ⟨rfl, hb2⟩
      go_wp2
      go_ret
      exact ⟨rfl, (bt (bt hb0 hb1) hb2)⟩
end Go.Proofs.Ytgkfmcmnlpapcaa
