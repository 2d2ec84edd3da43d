/-
  'MsgLong': it returns true.
-/
import Derived.Test.YtcipdimnbleljaaWorks
import Derived.Test.YtcipdimnbleljaaDrm
import Derived.Test.YtcipdimnbleljaaDm3P
import Derived.Test.YtcipdimnbleljaaOpD
namespace Go.Proofs.Ytcipdimnbleljaa
open Go.ChangeShapes Go.WideShapes Go.ChangeAt Go.RowKit
open Extern.Stop (cell)

theorem enc_any (d : DV) (p : Option Addr) (cap : Nat) : encS (msgD d p cap) = encS (msgD d none 0) := rfl
/-- what a call of Msg and of Encode on it answer -/
theorem lays_draft (M : Array Value) (d : DV) (p : Option Addr) (cap : Nat) (w : World) (hR : DraftRg d) (hM : MsgOf M (msgD d p cap)) (hA : MarksAt w (msgD d p cap)) :
    Calls Try.prog 17 #[.agg M] w fun e w' => e = .returned (.tuple #[.string (encS (msgD d none 0)), .int .i64 0]) ∧ Below w.heap.size w w' := by
  have h := encode_calls M _ w hM hA (good_draft hR p cap).rg
  rw [(good_draft hR p cap).encE, enc_any] at h
  exact h
theorem len_draft (d e : DV) (hd : DraftRg d) (he : DraftRg e) (hk : e.kind = d.kind) :
    ((encS (msgD d none 0)).size : Int) - 33 * (msgD d none 0).ms.length = (encS (msgD e none 0)).size - 33 * (msgD e none 0).ms.length := by
  rw [enc_size (good_draft hd none 0), enc_size (good_draft he none 0)]
  have k : kindD e = kindD d := by unfold kindD; rw [hk]
  unfold lenOf
  have e1 : (msgD d none 0).kind = kindD d := rfl
  have e2 : (msgD e none 0).kind = kindD e := rfl
  rw [e1, e2, k]
  by_cases h3 : kindD d = 3
  · rw [if_neg (by omega), if_neg (by omega), if_pos h3, if_neg (by omega), if_neg (by omega), if_pos h3]
    omega
  · have m1 : (msgD d none 0).ms = [] := by simp [msgD, h3]
    have m2 : (msgD e none 0).ms = [] := by simp [msgD, k, h3]
    rw [m1, m2]

theorem enc_le {d : DV} (h : DraftRg d) : (encS (msgD d none 0)).size ≤ 269 := by
  have := lenOf_le (may_draft h none 0)
  rw [enc_size (good_draft h none 0)]
  omega
theorem marks_le8 {d : DV} (h : DraftRg d) : (msgD d none 0).ms.length ≤ 8 := by
  by_cases k : kindD d = 3
  · have := riseB_le8 (may_3 (may_draft h none 0) k).1
    exact this
  · simp [msgD, k]
theorem run_eqlt {ρ : Operand → Value} {o : Oper} {w : World} {x y : Operand} {m n : Int} (h : m = n) (ho : o.op = .binOp .eql 3 x y 3) (hx : ρ x = .int .i64 m) (hy : ρ y = .int .i64 n) :
    (execOp ρ o).run Try.prog w = .ok (.value (.bool true)) w := by
  have := run_eqli (w := w) ho hx hy
  rw [h, beq_self_eq_true] at this
  exact this
theorem marks_sv {ρ : Operand → Value} {o : Oper} {w : World} {x : Operand} {C : Array Value} {m : MV} {v : Value} {K : World → Prop} (hM : MsgOf C m) (ho : o.op = .field 42 x 7) (hx : ρ x = .agg C) (hv : Value.slice m.p m.ms.length m.cap = v) (hK : K w) :
    stageUpon Try.prog K v ((execOp ρ o).run Try.prog w) := by
  rw [run_marksOf hM ho hx, hv]
  exact ⟨rfl, hK⟩
theorem run_msg {ρ : Operand → Value} {o : Oper} {w : World} {x : Operand} {C : Array Value} (ho : o.op = .call { callee := .value (.func 10), args := #[x], argTypes := #[28] }) (hx : ρ x = .agg C)
    (hf : ρ (.func 10) = .func (.func 10) #[] #[]) :
    (execOp ρ o).run Try.prog w = .ok (.enter 10 #[.agg C]) w := by
  unfold execOp
  simp only [ho]
  go_simp
structure ClL (C0 C2 : Array Value) (d0 d2 : DV) (w : World) (x : (Array Value × Option Addr × Nat) × (Array Value × Option Addr × Nat)) (s : Nat) (w' : World) : Prop where
  b0 : Blk w' w.heap.size C0 28
  b2 : Blk w' (w.heap.size + 1) C2 28
  low : Below w.heap.size w w'
  m0 : 0 < s → MsgOf x.1.1 (msgD d0 x.1.2.1 x.1.2.2)
  m2 : 1 < s → MsgOf x.2.1 (msgD d2 x.2.2.1 x.2.2.2)
section
variable {C0 C2 : Array Value} {d0 d2 : DV} {w : World} {x : (Array Value × Option Addr × Nat) × (Array Value × Option Addr × Nat)} {w' w'' : World} {M : Array Value} {p : Option Addr} {c : Nat}
theorem ClL.one (h : ClL C0 C2 d0 d2 w x 0 w') (hb : Below w'.heap.size w' w'') (hM : MsgOf M (msgD d0 p c)) : ClL C0 C2 d0 d2 w ((M, p, c), x.2) 1 w'' :=
  have hm := (Mod.refl (fun _ => False) w').after hb
  ⟨h.b0.mod hm (fun h => h), h.b2.mod hm (fun h => h), h.low.trans (hb.mono h.low.size), fun _ => hM, fun g => by omega⟩
theorem ClL.two (h : ClL C0 C2 d0 d2 w x 1 w') (hb : Below w'.heap.size w' w'') (hM : MsgOf M (msgD d2 p c)) : ClL C0 C2 d0 d2 w (x.1, (M, p, c)) 2 w'' :=
  have hm := (Mod.refl (fun _ => False) w').after hb
  ⟨h.b0.mod hm (fun h => h), h.b2.mod hm (fun h => h), h.low.trans (hb.mono h.low.size), fun _ => h.m0 (by omega), fun _ => hM⟩
end
set_option maxHeartbeats 2000000 in
set_option maxRecDepth 100000 in
theorem MsgLong_walk (C0 C1 : Array Value) (d0 d1 : DV) (w : World) (h0 : DraftOf C0 d0) (r0 : DraftRg d0) (a0 : BysAt w d0.p d0.bs) (h1 : DraftOf C1 d1) (r1 : DraftRg d1) (a1 : BysAt w d1.p d1.bs) :
    Calls Try.prog 7 #[.agg C0, .agg C1] w fun e w' => e = .returned (.bool true) ∧ Below w.heap.size w w' := by
  have HW := Lib.hid works_calls
  have he : DraftOf (C1.setIfInBounds 0 (.int .u8 d0.kind)) { d1 with kind := d0.kind } := by
    have hz := h1.size
    refine ⟨by rw [Array.size_setIfInBounds]; exact hz, set_eq (by omega), fun i hi => ?_, fun i hi => ?_, ?_⟩
    · rw [set_ne (by omega)]; exact h1.h1 i hi
    · rw [set_ne (by omega)]; exact h1.h9 i hi
    · rw [set_ne (by omega)]; exact h1.h11
  have re : DraftRg { d1 with kind := d0.kind } := ⟨r0.kind, r1.n, r1.big⟩
  have hlen := Lib.hid (len_draft d0 { d1 with kind := d0.kind } r0 re rfl)
  have hz0 := enc_le r0
  have hz2 := enc_le re
  generalize hd2 : ({ d1 with kind := d0.kind } : DV) = d2 at he re hlen hz2
  have a2 : BysAt w d2.p d2.bs := by rw [← hd2]; exact a1
  clear hd2 r1
  have k00 := h0.h0
  have k10 := h1.h0
  have hs0 := h0.size
  have hs1 := he.size
  generalize hC2 : C1.setIfInBounds 0 (.int .u8 d0.kind) = C2 at he hs1
  go_enter Try.func7, Try.ntmps7
  go_wp2_with fail
  refine (HW.out _).mono ?_
  rintro e w1 ⟨rfl, hb1⟩
  have hb := ((Below.refl w.heap.size w).alloc (Nat.le_refl _) (.cells C0 28)).alloc (by simp) (.cells C1 28)
  have B0 := ((Blk.new w C0 28).alloc (.cells C1 28)).mod ((Mod.refl (fun _ => False) _).after hb1) (fun h => h)
  have B1 := (Blk.new' w (.cells C0 28) C1 28).mod ((Mod.refl (fun _ => False) _).after hb1) (fun h => h)
  have hb2 := hb.trans (hb1.mono hb.size)
  have q0 := B0.cell k00
  have q1 := B1.cell k10
  have f1 := B1.froz 0
  go_upto_region 4 with fail
  refine wp_world' (fun wx => Blk wx w.heap.size C0 28 ∧ Blk wx (w.heap.size + 1) C2 28 ∧ Below w.heap.size w wx)
    ⟨B0.other (by show w.heap.size ≠ w.heap.size + 1; omega) _, by rw [← hC2]; exact B1.set 0 _, hb2.setCell (by show w.heap.size ≤ w.heap.size + 1; omega) _⟩ ?_
  rintro w2 ⟨B0, B1, hb2⟩
  clear hb1 hb q0 q1 f1
  have hm0 := Lib.hid (fun wx (h : Below w.heap.size w wx) => draft_calls C0 d0 wx h0 r0 (a0.below h))
  have hm2 := Lib.hid (fun wx (h : Below w.heap.size w wx) => draft_calls C2 d2 wx he re (a2.below h))
  have hi0 : (Try.prog.info? 28).map (·.size) = some C0.size := by rw [hs0]; kernel_rfl
  have hi2 : (Try.prog.info? 28).map (·.size) = some C2.size := by rw [hs1]; kernel_rfl
  have hld0 := Lib.hid (fun wx (h : Blk wx w.heap.size C0 28) => run_load_row' (P := Try.prog) wx w.heap.size 28 C0 28 _ h Try.underlying28 rfl hi0)
  have hld2 := Lib.hid (fun wx (h : Blk wx (w.heap.size + 1) C2 28) => run_load_row' (P := Try.prog) wx (w.heap.size + 1) 28 C2 28 _ h Try.underlying28 rfl hi2)
  replace hi0 := Lib.hid hi0
  replace hi2 := Lib.hid hi2
  replace hs0 := Lib.hid hs0
  replace hs1 := Lib.hid hs1
  have HB0 := Lib.hid B0
  have HB1 := Lib.hid B1
  clear B0 B1 h0 h1 he k00 k10 hC2
  go_wp2_with (refine wpList_load_v rfl 28 _ rfl ⟨w.heap.size, 0, none⟩ rfl _ (hld0.out _ HB0.out) ?_)
  refine (hm0.out _ hb2).mono ?_
  rintro e w3 ⟨M0, p0, c0, rfl, hb3, hM0, hA0, _⟩
  have B3 := Lib.hid (HB0.out.mod ((Mod.refl (fun _ => False) _).after hb3) (fun h => h))
  have D3 := Lib.hid (HB1.out.mod ((Mod.refl (fun _ => False) _).after hb3) (fun h => h))
  replace hb3 := hb2.trans (hb3.mono hb2.size)
  have hl3 := Lib.hid (lays_draft M0 d0 p0 c0 w3 r0 hM0 hA0)
  clear hM0 hA0 HB0 HB1 hb2
  go_wp2_with fail
  refine hl3.out.mono ?_
  rintro e w4 ⟨rfl, hb4⟩
  have B4 := Lib.hid (B3.out.mod ((Mod.refl (fun _ => False) _).after hb4) (fun h => h))
  have D4 := Lib.hid (D3.out.mod ((Mod.refl (fun _ => False) _).after hb4) (fun h => h))
  replace hb4 := hb3.trans (hb4.mono hb3.size)
  clear B3 D3 hb3 hl3
  go_wp2_with (refine wpList_load_v rfl 28 _ rfl ⟨w.heap.size + 1, 0, none⟩ rfl _ (hld2.out _ D4.out) ?_)
  refine (hm2.out _ hb4).mono ?_
  rintro e w5 ⟨M2, p2, c2, rfl, hb5, hM2, hA2, _⟩
  have B5 := Lib.hid (B4.out.mod ((Mod.refl (fun _ => False) _).after hb5) (fun h => h))
  have D5 := Lib.hid (D4.out.mod ((Mod.refl (fun _ => False) _).after hb5) (fun h => h))
  replace hb5 := hb4.trans (hb5.mono hb4.size)
  have hl5 := Lib.hid (lays_draft M2 d2 p2 c2 w5 re hM2 hA2)
  clear hM2 hA2 B4 D4 hb4
  go_wp2_with fail
  refine hl5.out.mono ?_
  rintro e w6 ⟨rfl, hb6⟩
  have B6 := Lib.hid (B5.out.mod ((Mod.refl (fun _ => False) _).after hb6) (fun h => h))
  have D6 := Lib.hid (D5.out.mod ((Mod.refl (fun _ => False) _).after hb6) (fun h => h))
  replace hb6 := hb5.trans (hb6.mono hb5.size)
  clear B5 D5 hb5 hl5
  generalize hS0 : encS (msgD d0 none 0) = S0 at hlen hz0
  generalize hS2 : encS (msgD d2 none 0) = S2 at hlen hz2
  clear hS0 hS2
  go_upto_region 8 with fail
  replace hlen := hlen.out
  have hn0 : (msgD d0 none 0).ms.length ≤ 8 := marks_le8 r0
  have hn2 : (msgD d2 none 0).ms.length ≤ 8 := marks_le8 re
  have eq0 : ∀ p c, (msgD d0 p c).ms = (msgD d0 none 0).ms := fun _ _ => rfl
  have eq2 : ∀ p c, (msgD d2 p c).ms = (msgD d2 none 0).ms := fun _ _ => rfl
  replace eq0 := Lib.hid eq0
  replace eq2 := Lib.hid eq2
  generalize hen0 : (msgD d0 none 0).ms.length = n0 at hlen hn0
  generalize hen2 : (msgD d2 none 0).ms.length = n2 at hlen hn2
  replace hen0 := Lib.hid hen0
  replace hen2 := Lib.hid hen2
  refine wp_region_tell (X := (Array Value × Option Addr × Nat) × (Array Value × Option Addr × Nat)) ((#[], none, 0), (#[], none, 0)) [3, 11] (fun x => [(32, .string S0), (33, .int .i64 S0.size), (34, .agg C0), (37, .int .i64 n0), (38, .int .i64 (33 * n0)), (39, .int .i64 (S0.size - 33 * n0)), (40, .string S2), (41, .int .i64 S2.size), (42, .agg C2), (45, .int .i64 n2), (46, .int .i64 (33 * n2)), (47, .int .i64 (S2.size - 33 * n2)), (48, .bool true), (4, .bool true)] ++ ([(35, .agg x.1.1), (36, .slice (msgD d0 x.1.2.1 x.1.2.2).p n0 (msgD d0 x.1.2.1 x.1.2.2).cap)] ++ [(43, .agg x.2.1), (44, .slice (msgD d2 x.2.2.1 x.2.2.2).p n2 (msgD d2 x.2.2.1 x.2.2.2).cap)]))
    (ClL C0 C2 d0 d2 w) (by kernel_rfl) (by kernel_rfl) (by kernel_rfl) (by kernel_rfl) (by kernel_rfl) (fun x => by kernel_rfl) ⟨B6.out.drew, D6.out.drew, hb6.drew, (fun h => by omega), (fun h => by omega)⟩ ?_ ?_
  · intro aF hAF
    have E2 : ∀ x, (aF x).eval (.tmp 2) = .pointer (some ⟨w.heap.size, 0, none⟩) := by intro x; rw [hAF]; kernel_rfl
    have E3 : ∀ x, (aF x).eval (.tmp 3) = .pointer (some ⟨w.heap.size + 1, 0, none⟩) := by intro x; rw [hAF]; kernel_rfl
    have E5 : ∀ x, (aF x).eval (.tmp 5) = .string S0 := by intro x; rw [hAF]; kernel_rfl
    have E7 : ∀ x, (aF x).eval (.tmp 7) = .string S2 := by intro x; rw [hAF]; kernel_rfl
    have T32 : ∀ x, (aF x).tmps[32]? = some (.string S0) := by intro x; rw [hAF]; kernel_rfl
    have E32 : ∀ x, (aF x).eval (.tmp 32) = .string S0 := by intro x; rw [hAF]; kernel_rfl
    have T33 : ∀ x, (aF x).tmps[33]? = some (.int .i64 S0.size) := by intro x; rw [hAF]; kernel_rfl
    have E33 : ∀ x, (aF x).eval (.tmp 33) = .int .i64 S0.size := by intro x; rw [hAF]; kernel_rfl
    have T34 : ∀ x, (aF x).tmps[34]? = some (.agg C0) := by intro x; rw [hAF]; kernel_rfl
    have E34 : ∀ x, (aF x).eval (.tmp 34) = .agg C0 := by intro x; rw [hAF]; kernel_rfl
    have T37 : ∀ x, (aF x).tmps[37]? = some (.int .i64 n0) := by intro x; rw [hAF]; kernel_rfl
    have E37 : ∀ x, (aF x).eval (.tmp 37) = .int .i64 n0 := by intro x; rw [hAF]; kernel_rfl
    have T38 : ∀ x, (aF x).tmps[38]? = some (.int .i64 (33 * n0)) := by intro x; rw [hAF]; kernel_rfl
    have E38 : ∀ x, (aF x).eval (.tmp 38) = .int .i64 (33 * n0) := by intro x; rw [hAF]; kernel_rfl
    have T39 : ∀ x, (aF x).tmps[39]? = some (.int .i64 (S0.size - 33 * n0)) := by intro x; rw [hAF]; kernel_rfl
    have E39 : ∀ x, (aF x).eval (.tmp 39) = .int .i64 (S0.size - 33 * n0) := by intro x; rw [hAF]; kernel_rfl
    have T40 : ∀ x, (aF x).tmps[40]? = some (.string S2) := by intro x; rw [hAF]; kernel_rfl
    have E40 : ∀ x, (aF x).eval (.tmp 40) = .string S2 := by intro x; rw [hAF]; kernel_rfl
    have T41 : ∀ x, (aF x).tmps[41]? = some (.int .i64 S2.size) := by intro x; rw [hAF]; kernel_rfl
    have E41 : ∀ x, (aF x).eval (.tmp 41) = .int .i64 S2.size := by intro x; rw [hAF]; kernel_rfl
    have T42 : ∀ x, (aF x).tmps[42]? = some (.agg C2) := by intro x; rw [hAF]; kernel_rfl
    have E42 : ∀ x, (aF x).eval (.tmp 42) = .agg C2 := by intro x; rw [hAF]; kernel_rfl
    have T45 : ∀ x, (aF x).tmps[45]? = some (.int .i64 n2) := by intro x; rw [hAF]; kernel_rfl
    have E45 : ∀ x, (aF x).eval (.tmp 45) = .int .i64 n2 := by intro x; rw [hAF]; kernel_rfl
    have T46 : ∀ x, (aF x).tmps[46]? = some (.int .i64 (33 * n2)) := by intro x; rw [hAF]; kernel_rfl
    have E46 : ∀ x, (aF x).eval (.tmp 46) = .int .i64 (33 * n2) := by intro x; rw [hAF]; kernel_rfl
    have T47 : ∀ x, (aF x).tmps[47]? = some (.int .i64 (S2.size - 33 * n2)) := by intro x; rw [hAF]; kernel_rfl
    have E47 : ∀ x, (aF x).eval (.tmp 47) = .int .i64 (S2.size - 33 * n2) := by intro x; rw [hAF]; kernel_rfl
    have T48 : ∀ x, (aF x).tmps[48]? = some (.bool true) := by intro x; rw [hAF]; kernel_rfl
    have E48 : ∀ x, (aF x).eval (.tmp 48) = .bool true := by intro x; rw [hAF]; kernel_rfl
    have T4 : ∀ x, (aF x).tmps[4]? = some (.bool true) := by intro x; rw [hAF]; kernel_rfl
    have E4 : ∀ x, (aF x).eval (.tmp 4) = .bool true := by intro x; rw [hAF]; kernel_rfl
    have T35 : ∀ x, (aF x).tmps[35]? = some (.agg x.1.1) := by intro x; rw [hAF]; kernel_rfl
    have E35 : ∀ x, (aF x).eval (.tmp 35) = .agg x.1.1 := by intro x; rw [hAF]; kernel_rfl
    have T36 : ∀ x, (aF x).tmps[36]? = some (.slice (msgD d0 x.1.2.1 x.1.2.2).p n0 (msgD d0 x.1.2.1 x.1.2.2).cap) := by intro x; rw [hAF]; kernel_rfl
    have E36 : ∀ x, (aF x).eval (.tmp 36) = .slice (msgD d0 x.1.2.1 x.1.2.2).p n0 (msgD d0 x.1.2.1 x.1.2.2).cap := by intro x; rw [hAF]; kernel_rfl
    have T43 : ∀ x, (aF x).tmps[43]? = some (.agg x.2.1) := by intro x; rw [hAF]; kernel_rfl
    have E43 : ∀ x, (aF x).eval (.tmp 43) = .agg x.2.1 := by intro x; rw [hAF]; kernel_rfl
    have T44 : ∀ x, (aF x).tmps[44]? = some (.slice (msgD d2 x.2.2.1 x.2.2.2).p n2 (msgD d2 x.2.2.1 x.2.2.2).cap) := by intro x; rw [hAF]; kernel_rfl
    have E44 : ∀ x, (aF x).eval (.tmp 44) = .slice (msgD d2 x.2.2.1 x.2.2.2).p n2 (msgD d2 x.2.2.1 x.2.2.2).cap := by intro x; rw [hAF]; kernel_rfl
    replace hAF := Lib.hid hAF
    refine ⟨?_, ?_, ?_, ?_, ?_, ?_, ?_, ?_, ?_, ?_, ?_, ?_, ?_, ?_, ?_, ?_, ?_, ?_, trivial⟩
    · exact opOk2_quiet _ (by intro x d hd _; cases hd; exact T32 x) (fun _ => rfl) (by decide) fun x s w' hc => sv (run_mov rfl (E5 x)) hc
    · exact opOk2_quiet _ (by intro x d hd _; cases hd; exact T33 x) (fun _ => rfl) (by decide) fun x s w' hc => sv (run_lenS rfl (E32 x)) hc
    · exact opOk2_quiet _ (by intro x d hd _; cases hd; exact T34 x) (fun _ => rfl) (by decide) fun x s w' hc => sv (run_load1 rfl (E2 x) (hld0.out _ hc.b0)) hc
    · exact opOk2_chain 0 rfl rfl (by decide) fun x w' hc => by
        refine sk (run_msg rfl (E34 x) rfl) ((hm0.out w' hc.low).mono ?_)
        rintro e w'' ⟨M, p, c, rfl, hb, hM, hA⟩
        exact ⟨_, rfl, ((M, p, c), x.2), (by rw [hAF.out]; exact agree_any (by kernel_rfl) (by kernel_rfl)), (by intro d hd _; cases hd; exact T35 _), hc.one hb hM⟩
    · exact opOk2_behind 0 _ (by intro x d hd _; cases hd; exact T36 x) (fun _ => rfl) (by decide) (by kernel_rfl) fun x s w' hs hc => marks_sv (hc.m0 hs) rfl (E35 x) (by rw [eq0.out, hen0.out]) hc
    · exact opOk2_quiet _ (by intro x d hd _; cases hd; exact T37 x) (fun _ => rfl) (by decide) fun x s w' hc => sv (run_lenL rfl (E36 x)) hc
    · exact opOk2_quiet _ (by intro x d hd _; cases hd; exact T38 x) (fun _ => rfl) (by decide) fun x s w' hc => sv (run_muli rfl rfl (E37 x) (by omega)) hc
    · exact opOk2_quiet _ (by intro x d hd _; cases hd; exact T39 x) (fun _ => rfl) (by decide) fun x s w' hc => sv (run_subi rfl (E33 x) (E38 x) (by omega)) hc
    · exact opOk2_quiet _ (by intro x d hd _; cases hd; exact T40 x) (fun _ => rfl) (by decide) fun x s w' hc => sv (run_mov rfl (E7 x)) hc
    · exact opOk2_quiet _ (by intro x d hd _; cases hd; exact T41 x) (fun _ => rfl) (by decide) fun x s w' hc => sv (run_lenS rfl (E40 x)) hc
    · exact opOk2_quiet _ (by intro x d hd _; cases hd; exact T42 x) (fun _ => rfl) (by decide) fun x s w' hc => sv (run_load1 rfl (E3 x) (hld2.out _ hc.b2)) hc
    · exact opOk2_chain 1 rfl rfl (by decide) fun x w' hc => by
        refine sk (run_msg rfl (E42 x) rfl) ((hm2.out w' hc.low).mono ?_)
        rintro e w'' ⟨M, p, c, rfl, hb, hM, hA⟩
        exact ⟨_, rfl, (x.1, (M, p, c)), (by rw [hAF.out]; exact agree_any2 (by kernel_rfl) (by kernel_rfl)), (by intro d hd _; cases hd; exact T43 _), hc.two hb hM⟩
    · exact opOk2_behind 1 _ (by intro x d hd _; cases hd; exact T44 x) (fun _ => rfl) (by decide) (by kernel_rfl) fun x s w' hs hc => marks_sv (hc.m2 hs) rfl (E43 x) (by rw [eq2.out, hen2.out]) hc
    · exact opOk2_quiet _ (by intro x d hd _; cases hd; exact T45 x) (fun _ => rfl) (by decide) fun x s w' hc => sv (run_lenL rfl (E44 x)) hc
    · exact opOk2_quiet _ (by intro x d hd _; cases hd; exact T46 x) (fun _ => rfl) (by decide) fun x s w' hc => sv (run_muli rfl rfl (E45 x) (by omega)) hc
    · exact opOk2_quiet _ (by intro x d hd _; cases hd; exact T47 x) (fun _ => rfl) (by decide) fun x s w' hc => sv (run_subi rfl (E41 x) (E46 x) (by omega)) hc
    · exact opOk2_quiet _ (by intro x d hd _; cases hd; exact T48 x) (fun _ => rfl) (by decide) fun x s w' hc => sv (run_eqlt hlen rfl (E39 x) (E47 x)) hc
    · exact opOk2_quiet _ (by intro x d hd _; cases hd; exact T4 x) (fun _ => rfl) (by decide) fun x s w' hc => sv (run_asg rfl (E48 x)) hc
  · intro x w7 hc
    simp only [putAll, List.foldl_cons, List.foldl_nil, List.cons_append, List.nil_append, Act.put, List.setIfInBounds_toArray, List.set_cons_succ, List.set_cons_zero]
    go_wp2_with fail
    go_ret
    exact ⟨rfl, hc.low⟩

set_option maxRecDepth 100000 in
theorem MsgLong_calls {H : Type} {enc : TypeId × Value → H} {W : World} {base : Nat} {v0 v1 : Value} {x0 x1 : DataW H} {p0 p1 : List MemPlace}
    (hv0 : Value.okWide Try.prog W .any base 28 v0) (t0 : DataW.Trod enc Try.prog W 0 (fun _ => true) true 28 v0 x0 p0)
    (hv1 : Value.okWide Try.prog W .any base 28 v1) (t1 : DataW.Trod enc Try.prog W 0 (fun _ => true) true 28 v1 x1 p1) :
    Calls Try.prog 7 #[v0, v1] W fun e w' => e = .returned (.bool true) ∧ Below W.heap.size W w' := by
  obtain ⟨C0, d0, rfl, h0, r0, a0⟩ := open_draft hv0 t0
  obtain ⟨C1, d1, rfl, h1, r1, a1⟩ := open_draft hv1 t1
  exact MsgLong_walk C0 C1 d0 d1 W h0 r0 a0 h1 r1 a1
end Go.Proofs.Ytcipdimnbleljaa
