/-
  The document's side of layer 18: May, walked.
-/
import Derived.Test.YtcipdimnbleljaaRfD
namespace Go.Proofs.Ytcipdimnbleljaa
open Go.RowKit
open Extern.Stop (cell)

set_option maxHeartbeats 2000000 in
set_option maxRecDepth 100000 in
theorem mayr_calls (C : Array Value) (m : MV) (w : World) (hM : MsgOf C m) (hA : MarksAt w m) (_ : MsgRg m) : Calls Try.prog 35 #[.agg C] w fun e w' => e = .returned (.bool (mayB m)) ∧ Below w.heap.size w w' := by
  obtain ⟨D, hD⟩ := bare_row hM
  obtain ⟨X, HX⟩ : ∃ X, mayB m = X := ⟨_, rfl⟩
  rw [HX]
  rw [may_ref_plain] at HX
  have hld := Lib.hid (fun wx (h : Blk wx w.heap.size C 42) => run_load_row' (P := Try.prog) wx w.heap.size 42 C 42 _ h Try.underlying42 rfl (msg_size _ hM.size))
  go_enter Try.func35, Try.ntmps35
  go_upto_region 1 with fail
  refine wp_world' (fun wx => Blk wx w.heap.size C 42 ∧ Below w.heap.size w wx ∧ MarksAt wx m) ⟨Blk.new w C _, new_below _ _, marks_below hA (new_below _ _)⟩ ?_
  rintro w0 ⟨hB, hb, hA0⟩
  have k0 := hB.cell hM.h0
  have k1 := hB.cell hM.h1
  by_cases h1 : m.kind < 1
  · obtain rfl : X = false := by rw [← HX, decide_eq_false (by omega), Bool.false_and]
    clear HX hld
    go_quiet (fail)
    go_wp2_with fail
    go_ret
    exact ⟨rfl, below_drewN hb _⟩
  by_cases h5 : m.kind > 5
  · obtain rfl : X = false := by rw [← HX, decide_eq_false (by omega), Bool.false_and]
    clear HX hld
    go_quiet (fail)
    go_wp2_with fail
    go_ret
    exact ⟨rfl, below_drewN hb _⟩
  rw [decide_eq_true (by omega : 1 ≤ m.kind ∧ m.kind ≤ 5), Bool.true_and] at HX
  by_cases r0 : m.round < 0
  · obtain rfl : X = false := by rw [← HX, show inB m.round 16 = false from decide_eq_false (by omega), Bool.false_and]
    clear HX hld
    go_quiet (fail)
    go_wp2_with fail
    go_ret
    exact ⟨rfl, below_drewN hb _⟩
  by_cases r16 : m.round ≥ 16
  · obtain rfl : X = false := by rw [← HX, show inB m.round 16 = false from decide_eq_false (by omega), Bool.false_and]
    clear HX hld
    go_quiet (fail)
    go_wp2_with fail
    go_ret
    exact ⟨rfl, below_drewN hb _⟩
  rw [show inB m.round 16 = true from decide_eq_true (by omega), Bool.true_and] at HX
  obtain ⟨q, hq⟩ : ∃ q, alB m (bareM m) = q := ⟨_, rfl⟩
  rw [hq] at HX
  have hcl : ∀ {wx wy : World}, (Blk wx w.heap.size C 42 ∧ Below w.heap.size w wx ∧ MarksAt wx m) → Below wx.heap.size wx wy → (Blk wy w.heap.size C 42 ∧ Below w.heap.size w wy ∧ MarksAt wy m) :=
    fun h g => ⟨h.1.mod ((Mod.refl (fun _ => False) _).after g) (fun h => h), h.2.1.trans (g.mono h.2.1.size), marks_below h.2.2 g⟩
  refine wp_region_puts [] [(4, .pointer (some ⟨w.heap.size, 0, none⟩)), (5, .int .i64 m.kind), (6, .bool false), (7, .bool false), (8, .pointer (some ⟨w.heap.size, 0, none⟩)), (9, .int .i64 m.kind), (10, .bool false), (11, .bool false), (12, .bool false), (13, .pointer (some ⟨w.heap.size, 1, none⟩)), (14, .int .i64 m.round), (15, .bool false), (16, .bool false), (17, .bool false), (18, .pointer (some ⟨w.heap.size, 1, none⟩)), (19, .int .i64 m.round), (20, .bool false), (21, .bool false), (22, .bool false), (23, .agg C), (24, .agg C), (25, .agg D), (26, .bool q), (27, .bool (!q)), (28, .bool (!q))] (fun _ wx => Blk wx w.heap.size C 42 ∧ Below w.heap.size w wx ∧ MarksAt wx m) (by kernel_rfl) (by kernel_rfl) (by kernel_rfl) (by kernel_rfl) (by kernel_rfl) ⟨hB.drew, hb.drew, ⟨hA0.nil, hA0.len, hA0.big, hA0.cells⟩⟩ ?_ ?_
  · intro aF hAF
    have E1 : aF.eval (.tmp 1) = .pointer (some ⟨w.heap.size, 0, none⟩) := by rw [← hAF]; kernel_rfl
    have T4 : aF.tmps[4]? = some (.pointer (some ⟨w.heap.size, 0, none⟩)) := by rw [← hAF]; kernel_rfl
    have E4 : aF.eval (.tmp 4) = .pointer (some ⟨w.heap.size, 0, none⟩) := by rw [← hAF]; kernel_rfl
    have T5 : aF.tmps[5]? = some (.int .i64 m.kind) := by rw [← hAF]; kernel_rfl
    have E5 : aF.eval (.tmp 5) = .int .i64 m.kind := by rw [← hAF]; kernel_rfl
    have T6 : aF.tmps[6]? = some (.bool false) := by rw [← hAF]; kernel_rfl
    have E6 : aF.eval (.tmp 6) = .bool false := by rw [← hAF]; kernel_rfl
    have T7 : aF.tmps[7]? = some (.bool false) := by rw [← hAF]; kernel_rfl
    have E7 : aF.eval (.tmp 7) = .bool false := by rw [← hAF]; kernel_rfl
    have T8 : aF.tmps[8]? = some (.pointer (some ⟨w.heap.size, 0, none⟩)) := by rw [← hAF]; kernel_rfl
    have E8 : aF.eval (.tmp 8) = .pointer (some ⟨w.heap.size, 0, none⟩) := by rw [← hAF]; kernel_rfl
    have T9 : aF.tmps[9]? = some (.int .i64 m.kind) := by rw [← hAF]; kernel_rfl
    have E9 : aF.eval (.tmp 9) = .int .i64 m.kind := by rw [← hAF]; kernel_rfl
    have T10 : aF.tmps[10]? = some (.bool false) := by rw [← hAF]; kernel_rfl
    have E10 : aF.eval (.tmp 10) = .bool false := by rw [← hAF]; kernel_rfl
    have T11 : aF.tmps[11]? = some (.bool false) := by rw [← hAF]; kernel_rfl
    have E11 : aF.eval (.tmp 11) = .bool false := by rw [← hAF]; kernel_rfl
    have T12 : aF.tmps[12]? = some (.bool false) := by rw [← hAF]; kernel_rfl
    have E12 : aF.eval (.tmp 12) = .bool false := by rw [← hAF]; kernel_rfl
    have T13 : aF.tmps[13]? = some (.pointer (some ⟨w.heap.size, 1, none⟩)) := by rw [← hAF]; kernel_rfl
    have E13 : aF.eval (.tmp 13) = .pointer (some ⟨w.heap.size, 1, none⟩) := by rw [← hAF]; kernel_rfl
    have T14 : aF.tmps[14]? = some (.int .i64 m.round) := by rw [← hAF]; kernel_rfl
    have E14 : aF.eval (.tmp 14) = .int .i64 m.round := by rw [← hAF]; kernel_rfl
    have T15 : aF.tmps[15]? = some (.bool false) := by rw [← hAF]; kernel_rfl
    have E15 : aF.eval (.tmp 15) = .bool false := by rw [← hAF]; kernel_rfl
    have T16 : aF.tmps[16]? = some (.bool false) := by rw [← hAF]; kernel_rfl
    have E16 : aF.eval (.tmp 16) = .bool false := by rw [← hAF]; kernel_rfl
    have T17 : aF.tmps[17]? = some (.bool false) := by rw [← hAF]; kernel_rfl
    have E17 : aF.eval (.tmp 17) = .bool false := by rw [← hAF]; kernel_rfl
    have T18 : aF.tmps[18]? = some (.pointer (some ⟨w.heap.size, 1, none⟩)) := by rw [← hAF]; kernel_rfl
    have E18 : aF.eval (.tmp 18) = .pointer (some ⟨w.heap.size, 1, none⟩) := by rw [← hAF]; kernel_rfl
    have T19 : aF.tmps[19]? = some (.int .i64 m.round) := by rw [← hAF]; kernel_rfl
    have E19 : aF.eval (.tmp 19) = .int .i64 m.round := by rw [← hAF]; kernel_rfl
    have T20 : aF.tmps[20]? = some (.bool false) := by rw [← hAF]; kernel_rfl
    have E20 : aF.eval (.tmp 20) = .bool false := by rw [← hAF]; kernel_rfl
    have T21 : aF.tmps[21]? = some (.bool false) := by rw [← hAF]; kernel_rfl
    have E21 : aF.eval (.tmp 21) = .bool false := by rw [← hAF]; kernel_rfl
    have T22 : aF.tmps[22]? = some (.bool false) := by rw [← hAF]; kernel_rfl
    have E22 : aF.eval (.tmp 22) = .bool false := by rw [← hAF]; kernel_rfl
    have T23 : aF.tmps[23]? = some (.agg C) := by rw [← hAF]; kernel_rfl
    have E23 : aF.eval (.tmp 23) = .agg C := by rw [← hAF]; kernel_rfl
    have T24 : aF.tmps[24]? = some (.agg C) := by rw [← hAF]; kernel_rfl
    have E24 : aF.eval (.tmp 24) = .agg C := by rw [← hAF]; kernel_rfl
    have T25 : aF.tmps[25]? = some (.agg D) := by rw [← hAF]; kernel_rfl
    have E25 : aF.eval (.tmp 25) = .agg D := by rw [← hAF]; kernel_rfl
    have T26 : aF.tmps[26]? = some (.bool q) := by rw [← hAF]; kernel_rfl
    have E26 : aF.eval (.tmp 26) = .bool q := by rw [← hAF]; kernel_rfl
    have T27 : aF.tmps[27]? = some (.bool (!q)) := by rw [← hAF]; kernel_rfl
    have E27 : aF.eval (.tmp 27) = .bool (!q) := by rw [← hAF]; kernel_rfl
    have T28 : aF.tmps[28]? = some (.bool (!q)) := by rw [← hAF]; kernel_rfl
    have E28 : aF.eval (.tmp 28) = .bool (!q) := by rw [← hAF]; kernel_rfl
    clear hAF
    refine ⟨?_, ?_, ?_, ?_, ?_, ?_, ?_, ?_, ?_, ?_, ?_, ?_, ?_, ?_, ?_, ?_, ?_, ?_, ?_, ?_, ?_, ?_, ?_, ?_, ?_, trivial⟩
    · exact opOk_quiet _ (by intro d hd _; cases hd; exact T4) rfl (by decide) fun _ w' hc => sv (run_fld 0 0 rfl E1 (fun w => by kernel_rfl)) hc
    · exact opOk_quiet _ (by intro d hd _; cases hd; exact T5) rfl (by decide) fun _ w' hc => sv (run_load1 rfl E4 (run_i64 (hc.1.cell hM.h0))) hc
    · exact opOk_quiet _ (by intro d hd _; cases hd; exact T6) rfl (by decide) fun _ w' hc => sv (run_lssF h1 rfl E5 (fun _ => rfl)) hc
    · exact opOk_quiet _ (by intro d hd _; cases hd; exact T7) rfl (by decide) fun _ w' hc => sv (run_mov rfl E6) hc
    · exact opOk_quiet _ (by intro d hd _; cases hd; exact T8) (wanted_of rfl (by kernel_rfl) T7) (by decide) fun _ w' hc => sv (run_fld 0 0 rfl E1 (fun w => by kernel_rfl)) hc
    · exact opOk_quiet _ (by intro d hd _; cases hd; exact T9) (wanted_of rfl (by kernel_rfl) T7) (by decide) fun _ w' hc => sv (run_load1 rfl E8 (run_i64 (hc.1.cell hM.h0))) hc
    · exact opOk_quiet _ (by intro d hd _; cases hd; exact T10) (wanted_of rfl (by kernel_rfl) T7) (by decide) fun _ w' hc => sv (run_gtrF h5 rfl E9 (fun _ => rfl)) hc
    · exact opOk_quiet _ (by intro d hd _; cases hd; exact T11) rfl (by decide) fun _ w' hc => sv (run_pick0 rfl E7 E10) hc
    · exact opOk_quiet _ (by intro d hd _; cases hd; exact T12) rfl (by decide) fun _ w' hc => sv (run_mov rfl E11) hc
    · exact opOk_quiet _ (by intro d hd _; cases hd; exact T13) (wanted_of rfl (by kernel_rfl) T12) (by decide) fun _ w' hc => sv (run_fld 1 1 rfl E1 (fun w => by kernel_rfl)) hc
    · exact opOk_quiet _ (by intro d hd _; cases hd; exact T14) (wanted_of rfl (by kernel_rfl) T12) (by decide) fun _ w' hc => sv (run_load1 rfl E13 (run_i64 (hc.1.cell hM.h1))) hc
    · exact opOk_quiet _ (by intro d hd _; cases hd; exact T15) (wanted_of rfl (by kernel_rfl) T12) (by decide) fun _ w' hc => sv (run_lssF r0 rfl E14 (fun _ => rfl)) hc
    · exact opOk_quiet _ (by intro d hd _; cases hd; exact T16) rfl (by decide) fun _ w' hc => sv (run_pick0 rfl E12 E15) hc
    · exact opOk_quiet _ (by intro d hd _; cases hd; exact T17) rfl (by decide) fun _ w' hc => sv (run_mov rfl E16) hc
    · exact opOk_quiet _ (by intro d hd _; cases hd; exact T18) (wanted_of rfl (by kernel_rfl) T17) (by decide) fun _ w' hc => sv (run_fld 1 1 rfl E1 (fun w => by kernel_rfl)) hc
    · exact opOk_quiet _ (by intro d hd _; cases hd; exact T19) (wanted_of rfl (by kernel_rfl) T17) (by decide) fun _ w' hc => sv (run_load1 rfl E18 (run_i64 (hc.1.cell hM.h1))) hc
    · exact opOk_quiet _ (by intro d hd _; cases hd; exact T20) (wanted_of rfl (by kernel_rfl) T17) (by decide) fun _ w' hc => sv (run_geqF r16 rfl E19 (fun _ => rfl)) hc
    · exact opOk_quiet _ (by intro d hd _; cases hd; exact T21) rfl (by decide) fun _ w' hc => sv (run_pick0 rfl E17 E20) hc
    · exact opOk_quiet _ (by intro d hd _; cases hd; exact T22) rfl (by decide) fun _ w' hc => sv (run_mov rfl E21) hc
    · exact opOk_quiet _ (by intro d hd _; cases hd; exact T23) (wanted_of rfl (by kernel_rfl) T22) (by decide) fun _ w' hc => sv (run_load1 rfl E1 (hld.out _ hc.1)) hc
    · exact opOk_quiet _ (by intro d hd _; cases hd; exact T24) (wanted_of rfl (by kernel_rfl) T22) (by decide) fun _ w' hc => sv (run_load1 rfl E1 (hld.out _ hc.1)) hc
    · exact opOk_quiet _ (by intro d hd _; cases hd; exact T25) (wanted_of rfl (by kernel_rfl) T22) (by decide) fun _ w' hc => sc (run_callbare rfl E24 rfl) ((bare_calls C m w' hM).mono fun e w'' h => by obtain ⟨D', rfl, hD', hb'⟩ := h; obtain rfl := msg_same hD hD'; exact ⟨rfl, hcl hc hb'⟩)
    · exact opOk_quiet _ (by intro d hd _; cases hd; exact T26) (wanted_of rfl (by kernel_rfl) T22) (by decide) fun _ w' hc => sc (run_callsame rfl E23 E25 rfl) ((same_calls C D m (bareM m) w' hM hD hc.2.2.mks (bare_marks hc.2.2.mks)).mono fun e w'' h => ⟨by rw [hq] at h; exact h.1, hcl hc h.2⟩)
    · exact opOk_quiet _ (by intro d hd _; cases hd; exact T27) (wanted_of rfl (by kernel_rfl) T22) (by decide) fun _ w' hc => sv (run_not rfl E26) hc
    · exact opOk_quiet _ (by intro d hd _; cases hd; exact T28) rfl (by decide) fun _ w' hc => sv (run_pick0 rfl E22 E27) hc
  · intro w1 hc
    simp only [putAll, List.foldl_cons, List.foldl_nil, Act.put, List.setIfInBounds_toArray, List.set_cons_succ, List.set_cons_zero]
    obtain ⟨hB1, hb1, hA1⟩ := hc
    clear k0 k1 hB hb hA0
    cases q with
    | false =>
      obtain rfl : X = false := by rw [← HX, Bool.false_and]
      go_wp2_with fail
      go_ret
      exact ⟨rfl, hb1⟩
    | true =>
      rw [Bool.true_and] at HX
      have k0 := hB1.cell hM.h0
      have hkk : m.kind = 1 ∨ m.kind = 2 ∨ m.kind = 3 ∨ m.kind = 4 ∨ m.kind = 5 := by omega
      clear hld hcl hA h1 h5 r0 r16 hq hD
      rcases hkk with hk | hk | hk | hk | hk
      · rw [hk] at k0
        unfold kindB at HX
        rw [if_pos hk] at HX
        have k3 := hB1.cell hM.h3
        have k4 := hB1.cell hM.h4
        have hlr := load_part (P := Try.prog) w1 _ C _ hB1 5 10 (by rw [hM.size]; omega) 35 _ Try.underlying35 rfl (by kernel_rfl)
        rw [req_row hM] at hlr
        have hck := Lib.hid (fun w => chk_ref (m.rq 0) (m.rq 1) (m.rq 2) (m.rq 3) (m.rq 4) (m.rq 5) (m.rq 6) (m.rq 7) (m.rq 8) (m.rq 9) w)
        have Hlr := Lib.hid hlr
        have HX' := Lib.hid HX
        clear hlr HX hk hM hB1 hA1
        by_cases a1 : 0 ≤ m.req
        · by_cases a2 : m.req < 64
          · by_cases a3 : 0 ≤ m.reserve
            · by_cases a4 : m.reserve ≤ 16777216
              · have e1 : inB m.req 64 = true := decide_eq_true (by omega)
                have e2 : inB m.reserve 16777217 = true := decide_eq_true (by omega)
                have HX2 := HX'.out
                rw [e1, e2, Bool.true_and, Bool.true_and] at HX2
                unfold ckB at HX2
                generalize rqCode (m.rq 0) (m.rq 1) (m.rq 2) (m.rq 3) (m.rq 4) (m.rq 5) (m.rq 6) (m.rq 7) (m.rq 8) (m.rq 9) = cd at hck HX2
                have e3 : (cd == 0) = X := by rw [← HX2]; rfl
                clear HX2 e1 e2 HX'
                go_wp2_with (refine wpList_load_v rfl 35 _ rfl ⟨w.heap.size, 5, none⟩ rfl _ Hlr.out ?_)
                refine (hck.out _).mono ?_
                rintro e w2 ⟨rfl, hb2⟩
                go_wp2_with fail
                go_ret
                exact ⟨rfl, hb1.trans (hb2.mono hb1.size)⟩
              · obtain rfl : X = false := by rw [← HX'.out, show inB m.reserve 16777217 = false from decide_eq_false (by omega)]; simp
                go_wp2_with fail
                go_ret
                exact ⟨rfl, hb1⟩
            · obtain rfl : X = false := by rw [← HX'.out, show inB m.reserve 16777217 = false from decide_eq_false (by omega)]; simp
              go_wp2_with fail
              go_ret
              exact ⟨rfl, hb1⟩
          · obtain rfl : X = false := by rw [← HX'.out, show inB m.req 64 = false from decide_eq_false (by omega)]; simp
            go_wp2_with fail
            go_ret
            exact ⟨rfl, hb1⟩
        · obtain rfl : X = false := by rw [← HX'.out, show inB m.req 64 = false from decide_eq_false (by omega)]; simp
          go_wp2_with fail
          go_ret
          exact ⟨rfl, hb1⟩
      · rw [hk] at k0
        unfold kindB at HX
        rw [if_neg (by omega), if_pos hk] at HX
        have k2 := hB1.cell hM.h2
        have hca := Lib.hid (fun w => carr_same m.carrier w)
        rw [HX] at hca
        clear hk hM hB1 hA1 HX
        go_wp2_with fail
        refine (hca.out _).mono ?_
        rintro e w2 ⟨rfl, rfl⟩
        go_wp2_with fail
        go_ret
        exact ⟨rfl, hb1⟩
      · rw [hk] at k0
        unfold kindB at HX
        rw [if_neg (by omega), if_neg (by omega), if_neg (by omega), if_neg (by omega)] at HX
        have hbig := hA1.big
        have k47 := hB1.cell hM.h47
        have H47 := Lib.hid hM.h47
        cases hp : m.p with
        | none =>
          have hn := hA1.nil hp
          rw [hp, hn] at k47
          rw [hn] at HX
          obtain rfl : X = true := by rw [← HX]; rfl
          clear hk hM hA1 HX hp
          go_wp2_with fail
          refine wp_loop_rounds 1 ?_
          rw [rounds_succ]; go_wp2_with fail
          go_ret
          exact ⟨rfl, hb1⟩
        | some a =>
          rw [hp] at k47
          have hw : ∀ x w, Hid (Calls Try.prog 49 #[.int .i64 x] w fun e w' => e = .returned (.bool (inB x 8)) ∧ w = w') := fun x w => Lib.hid (carr_same x w)
          have HM := Lib.hid hA1
          have HP := Lib.hid hp
          have HX' := Lib.hid HX
          have HB := Lib.hid hB1
          clear hk hM hA1 HX
          go_wp2_with fail
          go_loopw [3] (fun i wr => ∃ k : Nat, k ≤ m.ms.length ∧ i = .int .i64 k ∧ riseB (m.ms.take k) = true ∧ Below w1.heap.size w1 wr) (fun i _ => m.ms.length - (intOf i).toNat)
          case atStart => exact ⟨0, Nat.zero_le _, rfl, rfl, Below.refl _ _⟩
          case round =>
            obtain ⟨k, hk, rfl, hrise, hbw⟩ := hrel
            have HR := Lib.hid hrise
            have hA := Lib.hid (HM.out.mod ((Mod.refl (fun _ => False) _).after hbw) (by simp))
            have c47 := (HB.out.mod ((Mod.refl (fun _ => False) _).after hbw) (fun h => h)).cell H47.out
            rw [HP.out] at c47
            have hbw' := hbw
            have hlow := hb1.trans (hbw.mono hb1.size)
            clear hrise k47 k0
            by_cases hlt : k < m.ms.length
            · have hkx : m.ms[k]? = some m.ms[k] := List.getElem?_eq_getElem hlt
              have HT := Lib.hid (riseB_step m.ms[k] hkx HR.out)
              have kc : wr.cell? (a.add (k * 33)) = some (.int .i64 (m.ms[k]).1) := by
                have := hA.out.row HP.out hkx 0 (.int .i64 m.ms[k].1) rfl
                simpa [Addr.add_zero'] using this
              have kp : 0 < k → wr.cell? (a.add ((k - 1) * 33)) = some (.int .i64 (m.ms.getD (k - 1) (0, [])).1) := fun h => by
                have hk1 : m.ms[k - 1]? = some m.ms[k - 1] := List.getElem?_eq_getElem (by omega)
                have := hA.out.row HP.out hk1 0 (.int .i64 m.ms[k - 1].1) rfl
                simpa [List.getD_eq_getElem?_getD, hk1, Addr.add_zero'] using this
              have hq := hw m.ms[k].1
              clear hw hA hbw
              generalize inB m.ms[k].1 8 = q at hq HT
              cases q
              · go_wp2_with fail
                go_quiet ((go_at_call 49; exact Calls.quiet_of_same ((hq _).out.mono fun _ _ h => ⟨h.1, h.2.symm⟩)))
                go_wp2
                go_ret
                have e := riseB_take (k := k + 1) (by rw [HT.out]; rfl)
                exact ⟨by rw [← HX'.out, e]; rfl, below_drewN hlow _⟩
              · by_cases h0 : 0 < k
                · have hk0 : decide ((k : Int) > 0) = true := decide_eq_true (by omega)
                  have kq := kp h0
                  clear kp
                  rw [if_neg (by omega)] at HT
                  generalize (m.ms.getD (k - 1) (0, [])).1 = y at kq HT
                  have hi1 : IntKind.i64.wrap ((k : Int) - 1) = ((k - 1 : Nat) : Int) := by
                    rw [show (k : Int) - 1 = ((k - 1 : Nat) : Int) by omega]; exact IntWalk.i64_in _ (by omega)
                  have hi2 : (0 : Int) ≤ ((k - 1 : Nat) : Int) := by omega
                  have hi3 : ((k - 1 : Nat) : Int) < (m.ms.length : Int) := by omega
                  have hi4 : (((k - 1 : Nat) : Int)).toNat = k - 1 := by omega
                  go_wp2_with fail
                  go_quiet ((go_at_call 49; exact Calls.quiet_of_same ((hq _).out.mono fun _ _ h => ⟨h.1, h.2.symm⟩)))
                  clear hi1 hi2 hi3 hi4
                  by_cases hle : m.ms[k].1 ≤ y
                  · go_wp2
                    go_ret
                    have e := riseB_take (k := k + 1) (by rw [HT.out]; simp; omega)
                    exact ⟨by rw [← HX'.out, e]; rfl, below_drewN hlow _⟩
                  · go_wp2
                    go_roundw
                    case rel => exact ⟨k + 1, by omega, by go_num, by rw [HT.out]; simp; omega, below_drewN hbw' _⟩
                    case measure => simp [intOf]; omega
                · obtain rfl : k = 0 := by omega
                  have hk0 : decide (((0 : Nat) : Int) > 0) = false := rfl
                  have kc0 : wr.cell? (a.add 0) = some (.int .i64 (m.ms[0]).1) := by simpa using kc
                  have kc1 : wr.cell? a = some (.int .i64 (m.ms[0]).1) := by rw [← kc0, Addr.add_zero']
                  have hz1 : (0 : Int) < (m.ms.length : Int) := by omega
                  clear kp
                  go_wp2_with fail
                  go_quiet ((go_at_call 49; exact Calls.quiet_of_same ((hq _).out.mono fun _ _ h => ⟨h.1, h.2.symm⟩)))
                  go_wp2
                  go_roundw
                  case rel =>
                    repeat apply Exists.intro
                    exact ⟨⟨1, by omega, rfl, by rw [HT.out]; rfl, below_drewN hbw' _⟩, rfl⟩
                  case measure => simp [intOf]; omega
            · obtain rfl : k = m.ms.length := by omega
              have e := HR.out
              rw [List.take_length] at e
              obtain rfl : X = true := by rw [← HX'.out, e]
              go_wp2
              go_ret
              exact ⟨rfl, hlow⟩
      · rw [hk] at k0
        unfold kindB at HX
        rw [if_neg (by omega), if_neg (by omega), if_pos hk] at HX
        have k2 := hB1.cell hM.h2
        have k48 := hB1.cell hM.h48
        have hca := Lib.hid (fun w => carr_same m.carrier w)
        clear hk hM hB1 hA1
        cases hc : inB m.carrier 8 with
        | false =>
          rw [hc] at hca
          obtain rfl : X = false := by rw [← HX, hc]; rfl
          clear HX
          go_wp2_with fail
          refine (hca.out _).mono ?_
          rintro e w2 ⟨rfl, rfl⟩
          go_wp2_with fail
          go_ret
          exact ⟨rfl, hb1⟩
        | true =>
          rw [hc] at hca
          have HX2 : decide (m.bid ≤ 4294967296) = X := by rw [← HX, hc]; rfl
          clear HX
          go_wp2_with fail
          refine (hca.out _).mono ?_
          rintro e w2 ⟨rfl, rfl⟩
          go_wp2_with fail
          go_ret
          exact ⟨by first | rfl | (show Ending.returned (.bool (decide (m.bid ≤ 4294967296))) = _; rw [HX2]), hb1⟩
      · rw [hk] at k0
        unfold kindB at HX
        rw [if_neg (by omega), if_neg (by omega), if_neg (by omega), if_pos hk] at HX
        have hlo := load_part (P := Try.prog) w1 _ C _ hB1 50 3 (by rw [hM.size]; omega) 40 _ Try.underlying40 rfl (by kernel_rfl)
        rw [out_row hM] at hlo
        have Hlo := Lib.hid hlo
        have hou := Lib.hid (fun w => out_ref m.state m.winner m.price w)
        rw [HX] at hou
        clear hk hM hB1 hA1 HX hlo
        go_wp2_with (refine wpList_load_v rfl 40 _ rfl ⟨w.heap.size, 50, none⟩ rfl _ Hlo.out ?_)
        refine (hou.out _).mono ?_
        rintro e w2 ⟨rfl, hb2⟩
        go_wp2_with fail
        go_ret
        exact ⟨rfl, hb1.trans (hb2.mono hb1.size)⟩
end Go.Proofs.Ytcipdimnbleljaa
