/-
  The law FrameCut, walked: it returns true.
-/
import Derived.Test.YtgkfmcmnlpapcaaFrPlain
namespace Go.Proofs.Ytgkfmcmnlpapcaa
open Go.RowKit Frm

set_option maxHeartbeats 2000000 in
set_option maxRecDepth 100000 in
theorem FrameCut_calls (k : Int) (wk : (Lit.int .u8 k).wf = true) (body : ByteArray) (hb : body.size ≤ maxLen) (at_ : Int) (wa : (Lit.int .u16 at_).wf = true) (more : ByteArray) (hm : more.size ≤ 140737488351232) (w : World) :
    Calls Try.prog 6 #[.int .u8 k, .string body, .int .u16 at_, .string more] w fun e w' => e = .returned (.bool true) ∧ Below w.heap.size w w' := by
  have hk : 0 ≤ k ∧ k ≤ 255 := by simpa [Lit.wf, IntKind.min, IntKind.max, IntKind.signed, IntKind.bits] using wk
  have ha : 0 ≤ at_ ∧ at_ ≤ 65535 := by simpa [Lit.wf, IntKind.min, IntKind.max, IntKind.signed, IntKind.bits] using wa
  have hk0 := hk.1
  have hk1 := hk.2
  have ha0 := ha.1
  have ha1 := ha.2
  clear hk wk ha wa
  have hb' : (body.size : Int) ≤ 9223372036854775807 := by unfold maxLen at hb; omega
  go_enter Try.func6, Try.ntmps6
  go_wp2_with fail
  refine (works_calls _).mono ?_
  rintro e w0 ⟨rfl, hb0⟩
  go_wp2_with fail
  · have hz : (body.extract 0 300).size ≤ 300 := by simp; omega
    generalize body.extract 0 300 = b at hz ⊢
    have e0 := layE_ok hk0 hk1 (show b.size ≤ 65535 by omega)
    have e1 := layS_size e0
    have kl := Lib.hid fun w => eq2 (lay_calls k b w (by unfold maxLen; omega)) (v' := .tuple #[.string (layS k b), .int .i64 0]) (by rw [e0])
    have hs1 : ((layS k b).size : Int) = 3 + b.size := by omega
    have hs2 : (b.size : Int) ≤ 300 := by omega
    have hr0 : 0 ≤ at_ % (3 + (b.size : Int)) := Int.emod_nonneg _ (by omega)
    have hr1 : at_ % (3 + (b.size : Int)) < 3 + b.size := Int.emod_lt_of_pos _ (by omega)
    have hr2 : at_ % (3 + (b.size : Int)) ≤ 3 + b.size := by omega
    have hcut := cut_ok (laid_whole e0) (n := (at_ % (3 + (b.size : Int))).toNat) (by omega)
    obtain ⟨z1, z2, z3, z4, z5, z6, z7⟩ := bad_all hcut
    have kc := Lib.hid fun w => eq2 (parse_calls ((layS k b).extract 0 (at_ % (3 + (b.size : Int))).toNat) w (by unfold maxLen; simp; omega)) (v' := .tuple #[.int .i64 0, .string ByteArray.empty, .int .i64 14]) (by rw [z1, z2, z3])
    have ks := Lib.hid fun w => eq2 (split_calls ((layS k b).extract 0 (at_ % (3 + (b.size : Int))).toNat) w (by unfold maxLen; simp; omega)) (v' := .tuple #[.int .i64 0, .string ByteArray.empty, .string ByteArray.empty, .int .i64 14]) (by rw [z4, z5, z6, z7])
    obtain ⟨m1, m2, m3, m4⟩ := more_spl (m := more) e0
    have hms : (layS k b ++ more).size ≤ maxLen := by unfold maxLen; rw [ByteArray.size_append]; omega
    have km := Lib.hid fun w => eq2 (split_calls (layS k b ++ more) w hms) (v' := .tuple #[.int .i64 k, .string b, .string more, .int .i64 0]) (by rw [m1, m2, m3, m4])
    have hpm := Lib.hid fun hm0 w => eq2 (parse_calls (layS k b ++ more) w hms) (v' := .tuple #[.int .i64 0, .string ByteArray.empty, .int .i64 15]) (by rw [more_par e0 hm0, (par_bad (by rw [more_par e0 hm0]; omega)).1, (par_bad (by rw [more_par e0 hm0]; omega)).2])
    have hsum : ((layS k b).size : Int) + more.size ≤ 9223372036854775807 := by omega
    clear z1 z2 z3 z4 z5 z6 z7 m1 m2 m3 m4 hcut e0 e1 hms
    refine (kl.out _).mono ?_
    rintro e w1 ⟨rfl, hb1⟩
    by_cases h0 : more.size = 0
    · have hm1 : more.toList = [] := toList_nil h0
      clear hpm h0
      go_wp2_with fail
      refine (kc.out _).mono ?_
      rintro e w2 ⟨rfl, hb2⟩
      go_wp2_with fail
      refine (ks.out _).mono ?_
      rintro e w3 ⟨rfl, hb3⟩
      go_wp2
      go_ret
      exact ⟨rfl, bt (bt (bt hb0 hb1) hb2) hb3⟩
    · have hm1 : more.toList.isEmpty = false := toList_cons h0
      have hp := Lib.hid (hpm.out h0)
      clear hpm h0
      go_wp2_with fail
      refine (kc.out _).mono ?_
      rintro e w2 ⟨rfl, hb2⟩
      go_wp2_with fail
      refine (ks.out _).mono ?_
      rintro e w3 ⟨rfl, hb3⟩
      go_wp2_with fail
      refine (hp.out _).mono ?_
      rintro e w4 ⟨rfl, hb4⟩
      go_wp2_with fail
      refine (km.out _).mono ?_
      rintro e w5 ⟨rfl, hb5⟩
      go_wp2
      go_ret
      exact ⟨rfl, bt (bt (bt (bt (bt hb0 hb1) hb2) hb3) hb4) hb5⟩
  · have hz : body.size ≤ 300 := by omega
    have e0 := layE_ok hk0 hk1 (show body.size ≤ 65535 by omega)
    have e1 := layS_size e0
    have kl := Lib.hid fun w => eq2 (lay_calls k body w (by unfold maxLen; omega)) (v' := .tuple #[.string (layS k body), .int .i64 0]) (by rw [e0])
    have hs1 : ((layS k body).size : Int) = 3 + body.size := by omega
    have hs2 : (body.size : Int) ≤ 300 := by omega
    have hr0 : 0 ≤ at_ % (3 + (body.size : Int)) := Int.emod_nonneg _ (by omega)
    have hr1 : at_ % (3 + (body.size : Int)) < 3 + body.size := Int.emod_lt_of_pos _ (by omega)
    have hr2 : at_ % (3 + (body.size : Int)) ≤ 3 + body.size := by omega
    have hcut := cut_ok (laid_whole e0) (n := (at_ % (3 + (body.size : Int))).toNat) (by omega)
    obtain ⟨z1, z2, z3, z4, z5, z6, z7⟩ := bad_all hcut
    have kc := Lib.hid fun w => eq2 (parse_calls ((layS k body).extract 0 (at_ % (3 + (body.size : Int))).toNat) w (by unfold maxLen; simp; omega)) (v' := .tuple #[.int .i64 0, .string ByteArray.empty, .int .i64 14]) (by rw [z1, z2, z3])
    have ks := Lib.hid fun w => eq2 (split_calls ((layS k body).extract 0 (at_ % (3 + (body.size : Int))).toNat) w (by unfold maxLen; simp; omega)) (v' := .tuple #[.int .i64 0, .string ByteArray.empty, .string ByteArray.empty, .int .i64 14]) (by rw [z4, z5, z6, z7])
    obtain ⟨m1, m2, m3, m4⟩ := more_spl (m := more) e0
    have hms : (layS k body ++ more).size ≤ maxLen := by unfold maxLen; rw [ByteArray.size_append]; omega
    have km := Lib.hid fun w => eq2 (split_calls (layS k body ++ more) w hms) (v' := .tuple #[.int .i64 k, .string body, .string more, .int .i64 0]) (by rw [m1, m2, m3, m4])
    have hpm := Lib.hid fun hm0 w => eq2 (parse_calls (layS k body ++ more) w hms) (v' := .tuple #[.int .i64 0, .string ByteArray.empty, .int .i64 15]) (by rw [more_par e0 hm0, (par_bad (by rw [more_par e0 hm0]; omega)).1, (par_bad (by rw [more_par e0 hm0]; omega)).2])
    have hsum : ((layS k body).size : Int) + more.size ≤ 9223372036854775807 := by omega
    clear z1 z2 z3 z4 z5 z6 z7 m1 m2 m3 m4 hcut e0 e1 hms
    refine (kl.out _).mono ?_
    rintro e w1 ⟨rfl, hb1⟩
    by_cases h0 : more.size = 0
    · have hm1 : more.toList = [] := toList_nil h0
      clear hpm h0
      go_wp2_with fail
      refine (kc.out _).mono ?_
      rintro e w2 ⟨rfl, hb2⟩
      go_wp2_with fail
      refine (ks.out _).mono ?_
      rintro e w3 ⟨rfl, hb3⟩
      go_wp2
      go_ret
      exact ⟨rfl, bt (bt (bt hb0 hb1) hb2) hb3⟩
    · have hm1 : more.toList.isEmpty = false := toList_cons h0
      have hp := Lib.hid (hpm.out h0)
      clear hpm h0
      go_wp2_with fail
      refine (kc.out _).mono ?_
      rintro e w2 ⟨rfl, hb2⟩
      go_wp2_with fail
      refine (ks.out _).mono ?_
      rintro e w3 ⟨rfl, hb3⟩
      go_wp2_with fail
      refine (hp.out _).mono ?_
      rintro e w4 ⟨rfl, hb4⟩
      go_wp2_with fail
      refine (km.out _).mono ?_
      rintro e w5 ⟨rfl, hb5⟩
      go_wp2
      go_ret
      exact ⟨rfl, bt (bt (bt (bt (bt hb0 hb1) hb2) hb3) hb4) hb5⟩
end Go.Proofs.Ytgkfmcmnlpapcaa
