/-
  Layer 18 (msg): may.
-/
import Derived.Test.YtcipdimnbleljaaMay0
import Derived.Deep.CutRange
namespace Go.Proofs.Ytcipdimnbleljaa
open Go.RowKit
open Extern.Stop (cell)

set_option maxHeartbeats 4000000 in
set_option maxRecDepth 100000 in
theorem may4_calls (C : Array Value) (m : MV) (w : World) (hM : MsgOf C m) (hR : MsgRg m) (hk : m.kind = 4) :
    Calls Try.prog 27 #[.agg C] w fun e w' => e = .returned (.bool (mayB m)) ∧ Below w.heap.size w w' := by
  rw [may4_eq m hR hk]
  unfold tailB
  obtain ⟨X, HX⟩ : ∃ X, tailB (inB m.round 16 && (inB m.carrier 8 && decide (m.bid ≤ 4294967296))) m.strip4 = X := ⟨_, rfl⟩
  unfold tailB at HX
  rw [HX]
  replace HX := Lib.hid HX
  have hX := Lib.hid (strip4_of hM)
  have g0 := hM.h0
  rw [hk] at g0
  have hw1 := fun w => Lib.hid (within_calls m.round 16 w)
  generalize inB m.round 16 = p1 at hw1 HX
  have hw2 := fun w => Lib.hid (within_calls m.carrier 8 w)
  generalize inB m.carrier 8 = p2 at hw2 HX
  have g2 := hM.h2
  have g48 := hM.h48
  have hbid := hR.bid
  unfold U64 at hbid
  have g1 := hM.h1
  clear hM hR
  go_enter Try.func27, Try.ntmps27
  go_upto_region 1 with fail
  refine wp_world (fun wx => Blk wx w.heap.size C 42 ∧ Below w.heap.size w wx) ⟨Blk.new _ _ _, (Below.refl _ _).alloc (Nat.le_refl _) _⟩ ?_
  rintro w0 ⟨hB, hb⟩
  have k0 := hB.cell g0
  have k1 := hB.cell g1
  go_wp2_with fail
  refine (hw1 _).out.mono ?_
  rintro e w1 ⟨rfl, rfl⟩
  clear hw1 k1
  go_upto_region 14 with fail
  clear k0
  go_cut [3] from 55 to 65 (fun s3 wx => s3 = .bool (p1 && (p2 && decide (m.bid ≤ 4294967296))) ∧ Blk wx w.heap.size C 42 ∧ Below w.heap.size w wx)
  case first => as_aux_lemma =>
    clear hX
    cases p1
    · (go_wp2_with fail; go_meet; exact ⟨by simp, hB, hb⟩)
    · have k2 := hB.cell g2
      go_wp2_with fail
      refine (hw2 _).out.mono ?_
      rintro e w2 ⟨rfl, rfl⟩
      cases p2
      · (go_wp2_with fail; go_meet; exact ⟨by simp, hB, hb⟩)
      · have k48 := hB.cell g48
        go_wp2_with fail
        all_goals (go_meet; exact ⟨by simp [*], hB, hb⟩)
  case rest =>
  clear hB hb
  obtain ⟨rfl, hB, hb⟩ := hcut
  clear hw2 g2 g48 hbid
  generalize (p1 && (p2 && decide (m.bid ≤ 4294967296))) = R at HX
  have hf : ∀ i, wc.frozen? ⟨w.heap.size, i, none⟩ = false := fun i => hB.froz i
  have hs0 := hX.out.size
  simp only [Array.size_setIfInBounds] at hs0
  have k2 := hB.cell (i := 2) (Array.getElem?_eq_getElem (by omega))
  have k48 := hB.cell (i := 48) (Array.getElem?_eq_getElem (by omega))
  have k49 := hB.cell (i := 49) (Array.getElem?_eq_getElem (by omega))
  go_upto_region 19 with fail
  clear k2 k48 k49
  refine wp_world (fun wx => (∃ D, Blk wx w.heap.size D 42 ∧ MsgOf D m.strip4) ∧ Below w.heap.size w wx) ?_ ?_
  · as_aux_lemma =>
    refine ⟨⟨_, ?_, hX.out⟩, ?_⟩
    · repeat (first | with_reducible exact hB | with_reducible refine Blk.set ?_ _ _)
    · repeat (first | with_reducible exact hb | with_reducible refine Below.setCell ?_ (by exact Nat.le_refl _) _)
  as_aux_lemma =>
    clear hB hb hX hf hs0
    rintro wx ⟨⟨D, hB, hM⟩, hb⟩
    generalize m.strip4 = m' at hM HX
    clear g0 g1
    have hz := Lib.hid hM.size
    have k2 := hB.cell hM.h2
    have k3 := hB.cell hM.h3
    have k4 := hB.cell hM.h4
    have k47 := hB.cell hM.h47
    have k48 := hB.cell hM.h48
    have k49 := hB.cell hM.h49
    obtain ⟨o1, ho1⟩ : ∃ o, bits .or .i64 m'.carrier m'.req = o := ⟨_, rfl⟩
    obtain ⟨o2, ho2⟩ : ∃ o, bits .or .i64 o1 m'.reserve = o := ⟨_, rfl⟩
    obtain ⟨o3, ho3⟩ : ∃ o, bits .or .u64 m'.bid m'.nonce = o := ⟨_, rfl⟩
    have hE : emB m' = (decide (o2 = 0) && (decide (o3 = 0) && decide ((m'.ms.length : Int) = 0))) := by
      unfold emB
      rw [ho1, ho2, ho3]
    replace hE := Lib.hid hE
    have HM := Lib.hid hM
    clear hM
    generalize m'.ms.length = n at hE k47
    go_cut [4] from 79 to 101 (fun s4 wy => s4 = .bool (decide (o2 = 0) && (decide (o3 = 0) && decide ((n : Int) = 0))) ∧ wy = wx)
    case first => as_aux_lemma =>
      go_wp2_with fail
      all_goals (go_meet; exact ⟨by first | (rename_i a b; rw [a, b]; rfl) | (simp [*]; done) | (rename_i a b; rw [Bool.eq_iff_iff]; simp [a, b]; done) | (rename_i a; simp [a]; done) | (rename_i a b; simp only [a, b, decide_true, Bool.true_and]; rw [Bool.eq_iff_iff, beq_iff_eq, decide_eq_true_eq]; omega) | (rename_i a b; simp [a, b]; done), rfl⟩)
    case rest =>
    obtain ⟨rfl, rfl⟩ := hcut
    clear k2 k3 k4 k47 k48 k49 ho1 ho2 ho3
    rw [← hE.out]
    generalize emB m' = E at HX ⊢
    clear hE
    obtain ⟨X1, Z1, hp1⟩ := req_pack _ _ D m' _ hB HM.out
    obtain ⟨X2, Z2, hp2⟩ := dig_pack _ _ D m' _ hB HM.out
    obtain ⟨X3, Z3, hp3⟩ := out_pack _ _ D m' _ hB HM.out
    replace hp1 := Lib.hid hp1
    replace hp2 := Lib.hid hp2
    replace hp3 := Lib.hid hp3
    clear hB HM hz
    generalize rqZ m'.rq = q at hp1 HX
    generalize dgZ m'.dg = g at hp2 HX
    generalize outZ m' = t at hp3 HX
    cases R
    · as_aux_lemma => (go_wp2; go_ret; exact ⟨(show _ = Ending.returned (.bool _) from rfl).trans (congrArg (fun b => Ending.returned (.bool b)) HX.out), hb⟩)
    · cases E
      · as_aux_lemma => (go_wp2; go_ret; exact ⟨(show _ = Ending.returned (.bool _) from rfl).trans (congrArg (fun b => Ending.returned (.bool b)) HX.out), hb⟩)
      · cases q
        · as_aux_lemma => (go_wp2_with (first | (refine wpList_load_v (by kernel_rfl) 35 _ rfl ⟨w.heap.size, 5, none⟩ (by kernel_rfl) _ hp1.out.load ?_) | (refine wpList_build_v (by kernel_rfl) 35 rfl _ hp1.out.zero ?_) | (refine wpList_eql_v (by kernel_rfl) .eql 35 _ _ _ rfl X1 Z1 (by kernel_rfl) (by kernel_rfl) (hp1.out.guard _ _) _ hp1.out.same ?_) | (refine wpList_load_v (by kernel_rfl) 37 _ rfl ⟨w.heap.size, 15, none⟩ (by kernel_rfl) _ hp2.out.load ?_) | (refine wpList_build_v (by kernel_rfl) 37 rfl _ hp2.out.zero ?_) | (refine wpList_eql_v (by kernel_rfl) .eql 37 _ _ _ rfl X2 Z2 (by kernel_rfl) (by kernel_rfl) (hp2.out.guard _ _) _ hp2.out.same ?_) | (refine wpList_load_v (by kernel_rfl) 40 _ rfl ⟨w.heap.size, 50, none⟩ (by kernel_rfl) _ hp3.out.load ?_) | (refine wpList_build_v (by kernel_rfl) 40 rfl _ hp3.out.zero ?_) | (refine wpList_eql_v (by kernel_rfl) .eql 40 _ _ _ rfl X3 Z3 (by kernel_rfl) (by kernel_rfl) (hp3.out.guard _ _) _ hp3.out.same ?_)); go_ret; exact ⟨(show _ = Ending.returned (.bool _) from rfl).trans (congrArg (fun b => Ending.returned (.bool b)) HX.out), hb⟩)
        · cases g
          · as_aux_lemma => (go_wp2_with (first | (refine wpList_load_v (by kernel_rfl) 35 _ rfl ⟨w.heap.size, 5, none⟩ (by kernel_rfl) _ hp1.out.load ?_) | (refine wpList_build_v (by kernel_rfl) 35 rfl _ hp1.out.zero ?_) | (refine wpList_eql_v (by kernel_rfl) .eql 35 _ _ _ rfl X1 Z1 (by kernel_rfl) (by kernel_rfl) (hp1.out.guard _ _) _ hp1.out.same ?_) | (refine wpList_load_v (by kernel_rfl) 37 _ rfl ⟨w.heap.size, 15, none⟩ (by kernel_rfl) _ hp2.out.load ?_) | (refine wpList_build_v (by kernel_rfl) 37 rfl _ hp2.out.zero ?_) | (refine wpList_eql_v (by kernel_rfl) .eql 37 _ _ _ rfl X2 Z2 (by kernel_rfl) (by kernel_rfl) (hp2.out.guard _ _) _ hp2.out.same ?_) | (refine wpList_load_v (by kernel_rfl) 40 _ rfl ⟨w.heap.size, 50, none⟩ (by kernel_rfl) _ hp3.out.load ?_) | (refine wpList_build_v (by kernel_rfl) 40 rfl _ hp3.out.zero ?_) | (refine wpList_eql_v (by kernel_rfl) .eql 40 _ _ _ rfl X3 Z3 (by kernel_rfl) (by kernel_rfl) (hp3.out.guard _ _) _ hp3.out.same ?_)); go_ret; exact ⟨(show _ = Ending.returned (.bool _) from rfl).trans (congrArg (fun b => Ending.returned (.bool b)) HX.out), hb⟩)
          · as_aux_lemma => (go_wp2_with (first | (refine wpList_load_v (by kernel_rfl) 35 _ rfl ⟨w.heap.size, 5, none⟩ (by kernel_rfl) _ hp1.out.load ?_) | (refine wpList_build_v (by kernel_rfl) 35 rfl _ hp1.out.zero ?_) | (refine wpList_eql_v (by kernel_rfl) .eql 35 _ _ _ rfl X1 Z1 (by kernel_rfl) (by kernel_rfl) (hp1.out.guard _ _) _ hp1.out.same ?_) | (refine wpList_load_v (by kernel_rfl) 37 _ rfl ⟨w.heap.size, 15, none⟩ (by kernel_rfl) _ hp2.out.load ?_) | (refine wpList_build_v (by kernel_rfl) 37 rfl _ hp2.out.zero ?_) | (refine wpList_eql_v (by kernel_rfl) .eql 37 _ _ _ rfl X2 Z2 (by kernel_rfl) (by kernel_rfl) (hp2.out.guard _ _) _ hp2.out.same ?_) | (refine wpList_load_v (by kernel_rfl) 40 _ rfl ⟨w.heap.size, 50, none⟩ (by kernel_rfl) _ hp3.out.load ?_) | (refine wpList_build_v (by kernel_rfl) 40 rfl _ hp3.out.zero ?_) | (refine wpList_eql_v (by kernel_rfl) .eql 40 _ _ _ rfl X3 Z3 (by kernel_rfl) (by kernel_rfl) (hp3.out.guard _ _) _ hp3.out.same ?_)); go_ret; exact ⟨(show _ = Ending.returned (.bool _) from rfl).trans (congrArg (fun b => Ending.returned (.bool b)) HX.out), hb⟩)
end Go.Proofs.Ytcipdimnbleljaa
