/-
  The document's side of layer 18: Same.
-/
import Derived.Test.YtcipdimnbleljaaMay0
namespace Go.Proofs.Ytcipdimnbleljaa
open Go.RowKit
open Extern.Stop (cell)

/-- are both alike? each of eleven parts -/
def alB (x y : MV) : Bool :=
  (x.kind == y.kind) && ((x.round == y.round) && ((x.carrier == y.carrier) && ((x.req == y.req) && ((x.reserve == y.reserve) && (((List.range 10).all fun i => x.rq i == y.rq i) && ((x.dg == y.dg) && (decide (x.ms = y.ms) &&
  ((x.bid == y.bid) && ((x.nonce == y.nonce) && decide (x.state = y.state ∧ x.winner = y.winner ∧ x.price = y.price))))))))))

structure Two (T : TypeId) (A B o : Nat) (wx : World) (X Z : Array Value) (q : Bool) : Prop where
  one : (loadVar T ⟨A, o, none⟩).run Try.prog wx = .ok (.agg X) wx
  two : (loadVar T ⟨B, o, none⟩).run Try.prog wx = .ok (.agg Z) wx
  guard : ∀ x y, (eqGuard .eql T x y (.agg X) (.agg Z)).run Try.prog wx = .ok () wx
  same : (binOp .eql T (.agg X) (.agg Z)).run Try.prog wx = .ok (.bool q) wx
theorem req_row {D : Array Value} {m : MV} (hM : MsgOf D m) : D.extract 5 (5 + 10) = #[.int .i64 (m.rq 0), .int .i64 (m.rq 1), .int .i64 (m.rq 2), .int .i64 (m.rq 3), .int .i64 (m.rq 4), .int .i64 (m.rq 5), .int .i64 (m.rq 6), .int .i64 (m.rq 7), .int .i64 (m.rq 8), .int .i64 (m.rq 9)] :=
  ext_row (D := D) (o := 5) (n := 10) (by rw [hM.size]; omega) rfl (fun i hi => by rw [hM.h5 i hi]; match i, hi with | 0, _ => rfl | 1, _ => rfl | 2, _ => rfl | 3, _ => rfl | 4, _ => rfl | 5, _ => rfl | 6, _ => rfl | 7, _ => rfl | 8, _ => rfl | 9, _ => rfl | i + 10, hi => exact absurd hi (by omega))
theorem dig_row {D : Array Value} {m : MV} (hM : MsgOf D m) : D.extract 15 (15 + 32) = (m.dg.map cell).toArray :=
  ext_row (D := D) (o := 15) (n := 32) (by rw [hM.size]; omega) (by simp [hM.l15]) (fun i hi => by
    have : i < m.dg.length := by rw [hM.l15]; exact hi
    rw [hM.h15 i hi]; simp [List.getD_eq_getElem?_getD, this])
theorem out_row {D : Array Value} {m : MV} (hM : MsgOf D m) : D.extract 50 (50 + 3) = #[.int .i64 m.state, .int .i64 m.winner, .int .u64 m.price] :=
  ext_row (D := D) (o := 50) (n := 3) (by rw [hM.size]; omega) rfl (fun i hi => by
    match i, hi with | 0, _ => exact hM.h50 | 1, _ => exact hM.h51 | 2, _ => exact hM.h52 | i + 3, hi => exact absurd hi (by omega))
theorem req_two (wx : World) (A B : Nat) (C D : Array Value) (x y : MV) (t : TypeId) (hA : Blk wx A C t) (hB : Blk wx B D t) (hx : MsgOf C x) (hy : MsgOf D y) :
    ∃ X Z, Two 35 A B 5 wx X Z ((List.range 10).all fun i => x.rq i == y.rq i) := by
  refine ⟨_, _, ⟨load_part wx A C t hA 5 10 (by rw [hx.size]; omega) 35 _ Try.underlying35 rfl (by kernel_rfl), load_part wx B D t hB 5 10 (by rw [hy.size]; omega) 35 _ Try.underlying35 rfl (by kernel_rfl), fun x y => run_eqGuard_agg _ _ _ _ _ _ _ (by kernel_rfl), ?_⟩⟩
  rw [req_row hx, req_row hy]
  exact eql_request wx x.rq y.rq
theorem dig_two (wx : World) (A B : Nat) (C D : Array Value) (x y : MV) (t : TypeId) (hA : Blk wx A C t) (hB : Blk wx B D t) (hx : MsgOf C x) (hy : MsgOf D y) :
    ∃ X Z, Two 37 A B 15 wx X Z (x.dg == y.dg) := by
  refine ⟨_, _, ⟨load_part wx A C t hA 15 32 (by rw [hx.size]; omega) 37 _ Try.underlying37 rfl (by kernel_rfl), load_part wx B D t hB 15 32 (by rw [hy.size]; omega) 37 _ Try.underlying37 rfl (by kernel_rfl), fun x y => run_eqGuard_agg _ _ _ _ _ _ _ (by kernel_rfl), ?_⟩⟩
  rw [dig_row hx, dig_row hy]
  exact eql_digest wx _ _ x.dg y.dg (by simp) (by simp) hx.l15 hy.l15
theorem out_two (wx : World) (A B : Nat) (C D : Array Value) (x y : MV) (t : TypeId) (hA : Blk wx A C t) (hB : Blk wx B D t) (hx : MsgOf C x) (hy : MsgOf D y) :
    ∃ X Z, Two 40 A B 50 wx X Z (decide (x.state = y.state ∧ x.winner = y.winner ∧ x.price = y.price)) := by
  refine ⟨_, _, ⟨load_part wx A C t hA 50 3 (by rw [hx.size]; omega) 40 _ Try.underlying40 rfl (by kernel_rfl), load_part wx B D t hB 50 3 (by rw [hy.size]; omega) 40 _ Try.underlying40 rfl (by kernel_rfl), fun x y => run_eqGuard_agg _ _ _ _ _ _ _ (by kernel_rfl), ?_⟩⟩
  rw [out_row hx, out_row hy]
  exact eql_outcome wx x.state x.winner x.price y.state y.winner y.price


theorem blk_two (w : World) (C D : Array Value) (t : TypeId) : Blk ((w.alloc (.cells C t)).alloc (.cells D t)) w.heap.size C t ∧ Blk ((w.alloc (.cells C t)).alloc (.cells D t)) (w.heap.size + 1) D t :=
  ⟨(Blk.new w C _).alloc _, Blk.new' w _ D _⟩

set_option maxHeartbeats 4000000 in
set_option maxRecDepth 100000 in
theorem same_calls (C D : Array Value) (x y : MV) (w : World) (hC : MsgOf C x) (hD : MsgOf D y) (hx : MksAt w x.p x.ms) (hy : MksAt w y.p y.ms) :
    Calls Try.prog 19 #[.agg C, .agg D] w fun e w' => e = .returned (.bool (alB x y)) ∧ Below w.heap.size w w' := by
  obtain ⟨X, HX⟩ : ∃ X, alB x y = X := ⟨_, rfl⟩
  rw [HX]
  unfold alB at HX
  replace HX := Lib.hid HX
  have hb : Below w.heap.size w ((w.alloc (.cells C 42)).alloc (.cells D 42)) := ((Below.refl _ _).alloc (Nat.le_refl _) _).alloc (by simp) _
  obtain ⟨hA, hB⟩ := blk_two w C D 42
  obtain ⟨wo, hwo⟩ : ∃ wo, (w.alloc (.cells C 42)).alloc (.cells D 42) = wo := ⟨_, rfl⟩
  rw [hwo] at hb hA hB
  have hms := Lib.hid (sameMarks_calls x.p y.p x.ms y.ms x.cap y.cap _ (hx.below hb) (hy.below hb))
  obtain ⟨X5, Z5, hq5⟩ := req_two _ _ _ C D x y _ hA hB hC hD
  obtain ⟨X6, Z6, hq6⟩ := dig_two _ _ _ C D x y _ hA hB hC hD
  have h10 := Lib.hid (fun (w' : World) (h : Below wo.heap.size wo w') =>
    (⟨hA.mod ((Mod.refl (fun _ => False) _).after h) (fun h => h), hB.mod ((Mod.refl (fun _ => False) _).after h) (fun h => h), out_two w' _ _ C D x y _ (hA.mod ((Mod.refl (fun _ => False) _).after h) (fun h => h)) (hB.mod ((Mod.refl (fun _ => False) _).after h) (fun h => h)) hC hD⟩ :
      Blk w' w.heap.size C 42 ∧ Blk w' (w.heap.size + 1) D 42 ∧ ∃ X Z, Two 40 w.heap.size (w.heap.size + 1) 50 w' X Z (decide (x.state = y.state ∧ x.winner = y.winner ∧ x.price = y.price))))
  replace hq5 := Lib.hid hq5
  replace hq6 := Lib.hid hq6
  have a0 := hA.cell hC.h0
  have c0 := hB.cell hD.h0
  have a1 := hA.cell hC.h1
  have c1 := hB.cell hD.h1
  have a2 := hA.cell hC.h2
  have c2 := hB.cell hD.h2
  have a3 := hA.cell hC.h3
  have c3 := hB.cell hD.h3
  have a4 := hA.cell hC.h4
  have c4 := hB.cell hD.h4
  obtain ⟨b0, e0⟩ : ∃ b, (x.kind == y.kind) = b := ⟨_, rfl⟩
  rw [e0] at HX
  obtain ⟨b1, e1⟩ : ∃ b, (x.round == y.round) = b := ⟨_, rfl⟩
  rw [e1] at HX
  obtain ⟨b2, e2⟩ : ∃ b, (x.carrier == y.carrier) = b := ⟨_, rfl⟩
  rw [e2] at HX
  obtain ⟨b3, e3⟩ : ∃ b, (x.req == y.req) = b := ⟨_, rfl⟩
  rw [e3] at HX
  obtain ⟨b4, e4⟩ : ∃ b, (x.reserve == y.reserve) = b := ⟨_, rfl⟩
  rw [e4] at HX
  obtain ⟨b8, e8⟩ : ∃ b, (x.bid == y.bid) = b := ⟨_, rfl⟩
  rw [e8] at HX
  obtain ⟨b9, e9⟩ : ∃ b, (x.nonce == y.nonce) = b := ⟨_, rfl⟩
  rw [e9] at HX
  have a7 := hA.cell hC.h47
  have c7 := hB.cell hD.h47
  generalize ((List.range 10).all fun i => x.rq i == y.rq i) = b5 at hq5 HX
  generalize (x.dg == y.dg) = b6 at hq6 HX
  generalize decide (x.ms = y.ms) = b7 at hms HX
  generalize decide (x.state = y.state ∧ x.winner = y.winner ∧ x.price = y.price) = b10 at h10 HX
  have g48 := Lib.hid hC.h48
  have g49 := Lib.hid hC.h49
  have k48 := Lib.hid hD.h48
  have k49 := Lib.hid hD.h49
  clear hC hD hx hy hA hB
  replace hwo := Lib.hid hwo
  go_enter Try.func19, Try.ntmps19
  go_upto_region 1 with fail
  refine wp_world (fun wx => wx = wo) hwo.out ?_
  rintro _ rfl
  simp only [List.append_eq, List.cons_append, List.nil_append]
  cases b0
  · as_aux_lemma => (go_wp2_with (fail); go_ret; exact ⟨(show _ = Ending.returned (.bool _) from rfl).trans (congrArg (fun b => Ending.returned (.bool b)) HX.out), hb⟩)
  · skip
    cases b1
    · as_aux_lemma => (go_wp2_with (fail); go_ret; exact ⟨(show _ = Ending.returned (.bool _) from rfl).trans (congrArg (fun b => Ending.returned (.bool b)) HX.out), hb⟩)
    · skip
      cases b2
      · as_aux_lemma => (go_wp2_with (fail); go_ret; exact ⟨(show _ = Ending.returned (.bool _) from rfl).trans (congrArg (fun b => Ending.returned (.bool b)) HX.out), hb⟩)
      · skip
        cases b3
        · as_aux_lemma => (go_wp2_with (fail); go_ret; exact ⟨(show _ = Ending.returned (.bool _) from rfl).trans (congrArg (fun b => Ending.returned (.bool b)) HX.out), hb⟩)
        · skip
          cases b4
          · as_aux_lemma => (go_wp2_with (fail); go_ret; exact ⟨(show _ = Ending.returned (.bool _) from rfl).trans (congrArg (fun b => Ending.returned (.bool b)) HX.out), hb⟩)
          · skip
            cases b5
            · as_aux_lemma => (go_wp2_with (first | (refine wpList_load_v (by kernel_rfl) 35 _ rfl ⟨w.heap.size, 5, none⟩ rfl _ hq5.out.one ?_) | (refine wpList_load_v (by kernel_rfl) 35 _ rfl ⟨w.heap.size + 1, 5, none⟩ rfl _ hq5.out.two ?_) | (refine wpList_eql_v (by kernel_rfl) .eql 35 _ _ _ rfl _ _ rfl rfl (hq5.out.guard _ _) _ hq5.out.same ?_)); go_ret; exact ⟨(show _ = Ending.returned (.bool _) from rfl).trans (congrArg (fun b => Ending.returned (.bool b)) HX.out), hb⟩)
            · skip
              cases b6
              · as_aux_lemma => (go_wp2_with (first | (refine wpList_load_v (by kernel_rfl) 35 _ rfl ⟨w.heap.size, 5, none⟩ rfl _ hq5.out.one ?_) | (refine wpList_load_v (by kernel_rfl) 35 _ rfl ⟨w.heap.size + 1, 5, none⟩ rfl _ hq5.out.two ?_) | (refine wpList_eql_v (by kernel_rfl) .eql 35 _ _ _ rfl _ _ rfl rfl (hq5.out.guard _ _) _ hq5.out.same ?_) | (refine wpList_load_v (by kernel_rfl) 37 _ rfl ⟨w.heap.size, 15, none⟩ rfl _ hq6.out.one ?_) | (refine wpList_load_v (by kernel_rfl) 37 _ rfl ⟨w.heap.size + 1, 15, none⟩ rfl _ hq6.out.two ?_) | (refine wpList_eql_v (by kernel_rfl) .eql 37 _ _ _ rfl _ _ rfl rfl (hq6.out.guard _ _) _ hq6.out.same ?_)); go_ret; exact ⟨(show _ = Ending.returned (.bool _) from rfl).trans (congrArg (fun b => Ending.returned (.bool b)) HX.out), hb⟩)
              · skip
                go_wp2_with (first | (refine wpList_load_v (by kernel_rfl) 35 _ rfl ⟨w.heap.size, 5, none⟩ rfl _ hq5.out.one ?_) | (refine wpList_load_v (by kernel_rfl) 35 _ rfl ⟨w.heap.size + 1, 5, none⟩ rfl _ hq5.out.two ?_) | (refine wpList_eql_v (by kernel_rfl) .eql 35 _ _ _ rfl _ _ rfl rfl (hq5.out.guard _ _) _ hq5.out.same ?_) | (refine wpList_load_v (by kernel_rfl) 37 _ rfl ⟨w.heap.size, 15, none⟩ rfl _ hq6.out.one ?_) | (refine wpList_load_v (by kernel_rfl) 37 _ rfl ⟨w.heap.size + 1, 15, none⟩ rfl _ hq6.out.two ?_) | (refine wpList_eql_v (by kernel_rfl) .eql 37 _ _ _ rfl _ _ rfl rfl (hq6.out.guard _ _) _ hq6.out.same ?_))
                refine hms.out.mono ?_
                rintro e w2 ⟨rfl, hb2⟩
                have hbw := hb.trans (hb2.mono hb.size)
                obtain ⟨hA2, hB2, X10, Z10, hq10⟩ := h10.out w2 hb2
                have a8 := hA2.cell g48.out
                have c8 := hB2.cell k48.out
                have a9 := hA2.cell g49.out
                have c9 := hB2.cell k49.out
                replace hq10 := Lib.hid hq10
                clear hA2 hB2 h10 hms
                cases b7
                · as_aux_lemma => (go_wp2_with (fail); go_ret; exact ⟨(show _ = Ending.returned (.bool _) from rfl).trans (congrArg (fun b => Ending.returned (.bool b)) HX.out), hbw⟩)
                · cases b8
                  · as_aux_lemma => (go_wp2_with (fail); go_ret; exact ⟨(show _ = Ending.returned (.bool _) from rfl).trans (congrArg (fun b => Ending.returned (.bool b)) HX.out), hbw⟩)
                  · cases b9
                    · as_aux_lemma => (go_wp2_with (fail); go_ret; exact ⟨(show _ = Ending.returned (.bool _) from rfl).trans (congrArg (fun b => Ending.returned (.bool b)) HX.out), hbw⟩)
                    · as_aux_lemma => (go_wp2_with (first | (refine wpList_load_v (by kernel_rfl) 40 _ rfl ⟨w.heap.size, 50, none⟩ rfl _ hq10.out.one ?_) | (refine wpList_load_v (by kernel_rfl) 40 _ rfl ⟨w.heap.size + 1, 50, none⟩ rfl _ hq10.out.two ?_) | (refine wpList_eql_v (by kernel_rfl) .eql 40 _ _ _ rfl _ _ rfl rfl (hq10.out.guard _ _) _ hq10.out.same ?_)); go_ret; exact ⟨(show _ = Ending.returned (.bool _) from rfl).trans (congrArg (fun b => Ending.returned (.bool b)) HX.out), hbw⟩)
end Go.Proofs.Ytcipdimnbleljaa
