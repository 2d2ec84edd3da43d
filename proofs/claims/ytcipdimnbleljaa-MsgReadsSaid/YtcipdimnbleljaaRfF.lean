/-
  The document's side of layer 18: Body.
-/
import Derived.Test.YtcipdimnbleljaaRfE
import Derived.Test.YtcipdimnbleljaaRfA
import Derived.Test.YtcipdimnbleljaaBkP
namespace Go.Proofs.Ytcipdimnbleljaa
open Go.RowKit
open Extern.Stop (cell)

section
variable {ρ : Operand → Value} {o : Oper} {w : World} {x y : Operand}
theorem run_fldT {b off off2 f : Nat} {ty : TypeId} (ho : o.op = .fieldAddr ty x f) (hx : ρ x = .pointer (some ⟨b, off, none⟩)) (hf : ∀ w, (Instr.fieldAt ty (.pointer (some ⟨b, off, none⟩)) f).run Try.prog w = .ok (.pointer (some ⟨b, off2, none⟩)) w) :
    (execOp ρ o).run Try.prog w = .ok (.value (.pointer (some ⟨b, off2, none⟩))) w := by
  unfold execOp; simp only [ho, hx, Sem.run_bind, hf, Result.andThen_ok, Sem.run_pure]
theorem run_cat {a b : ByteArray} (ha : a.size ≤ 1000000) (hb : b.size ≤ 1000000) (ho : o.op = .binOp .add 9 x y 9) (hx : ρ x = .string a) (hy : ρ y = .string b) : (execOp ρ o).run Try.prog w = .ok (.value (.string (a ++ b))) w := by
  unfold execOp
  simp only [ho, hx, hy]
  go_simp
  omega
theorem run_callnum {n : Int} {k : Nat} (ho : o.op = .call { callee := .value (.func 24), args := #[x, .const (.int .i64 k)], argTypes := #[3, 3] }) (hx : ρ x = .int .i64 n) (hc : ∀ v, ρ (.const v) = v)
    (hf : ρ (.func 24) = .func (.func 24) #[] #[]) : (execOp ρ o).run Try.prog w = .ok (.enter 24 #[.int .i64 n, .int .i64 k]) w := by
  unfold execOp
  simp only [ho]
  go_simp
theorem run_cvt {v u : Value} {s t : TypeId} (ho : o.op = .convert s t x) (hx : ρ x = v) (h : (convert s t v).run Try.prog w = .ok u w) : (execOp ρ o).run Try.prog w = .ok (.value u) w := by
  unfold execOp
  simp only [ho, hx, Sem.run_bind, h, Result.andThen_ok, Sem.run_pure]
theorem run_slcDg {b off : Nat} (ho : o.op = .slice 37 x none none none) (hx : ρ x = .pointer (some ⟨b, off, none⟩)) : (execOp ρ o).run Try.prog w = .ok (.value (.slice (some ⟨b, off, none⟩) 32 32)) w := by
  unfold execOp
  simp only [ho, hx]
  go_simp
theorem run_addW {n k : Int} (hn : -1000000 < n ∧ n < 1000000) (hk : 0 ≤ k ∧ k < 1000) (ho : o.op = .binOp .add 3 x (.const (.int .i64 k)) 3) (hx : ρ x = .int .i64 n) (hc : ∀ v, ρ (.const v) = v) : (execOp ρ o).run Try.prog w = .ok (.value (.int .i64 (n + k))) w := by
  have s1 : IntKind.i64.wrap (n + k) = n + k := IntWalk.i64_in _ (by omega)
  unfold execOp
  simp only [ho, hx, hc]
  go_simp
end
theorem body_addS (m : MV) : bodyS m = addS (strOfNums (be m.round 1)) (numsOf m).tail := by
  rw [addS_eq, ← strOfNums_append]
  rfl
theorem addS_snoc (s : ByteArray) (ns : List (Int × Nat)) (n : Int) (k : Nat) : addS s (ns ++ [(n, k)]) = addS s ns ++ strOfNums (be n k) := by
  unfold addS
  rw [List.foldl_append]
  rfl
/-- the worlds of a walk through Body -/
structure ClY (C : Array Value) (m : MV) (w wx : World) : Prop where
  b : Blk wx w.heap.size C 42
  low : Below w.heap.size w wx
  ms : MarksAt wx m
theorem ClY.drew {C : Array Value} {m : MV} {w wx : World} (h : ClY C m w wx) : ClY C m w wx.drew := ⟨h.b.drew, h.low.drew, ⟨h.ms.nil, h.ms.len, h.ms.big, h.ms.cells⟩⟩
theorem ClY.below {C : Array Value} {m : MV} {w wx wy : World} (h : ClY C m w wx) (g : Below wx.heap.size wx wy) : ClY C m w wy :=
  ⟨h.b.mod ((Mod.refl (fun _ => False) _).after g) (fun h => h), h.low.trans (g.mono h.low.size), marks_below h.ms g⟩

set_option maxHeartbeats 2000000 in
set_option maxRecDepth 100000 in
theorem body4_calls (C : Array Value) (m : MV) (w : World) (hM : MsgOf C m) (hA : MarksAt w m) (hG : Good m) (hk : m.kind = 4) : Calls Try.prog 15 #[.agg C] w fun e w' => e = .returned (.string (bodyS m)) ∧ Below w.heap.size w w' := by
  have hR := nums_rg hG.may hG.rg
  have rr := hR (m.round, 1) (by unfold numsOf; exact List.mem_cons_self)
  have nr := Lib.hid (fun w => num_ref m.round 1 w ⟨rr.1, by have := rr.2; simp at this; omega⟩ (by omega))
  have hbody := body_addS m
  generalize bodyS m = BS at hbody
  go_enter Try.func15, Try.ntmps15
  go_upto_region 1 with fail
  refine wp_world' (fun wx => ClY C m w wx) ⟨Blk.new w C _, new_below _ _, marks_below hA (new_below _ _)⟩ ?_
  rintro w0 hc0
  have k1 := hc0.b.cell hM.h1
  go_wp2_with fail
  refine (nr.out _).mono ?_
  rintro e w1 ⟨rfl, hb1⟩
  have hc1 := hc0.below hb1
  have k0 := hc1.b.cell hM.h0
  rw [hk] at k0
  clear k1 hc0 hb1 nr
  obtain ⟨A0, hA0⟩ : ∃ X, strOfNums (be m.round 1) = X := ⟨_, rfl⟩
  have z0 : A0.size = 1 := by rw [← hA0, strOfNums_size, be_length]
  rw [hA0] at hbody ⊢
  have r1 := hR (m.carrier, 1) (by unfold numsOf; rw [if_neg (by omega), if_neg (by omega), if_neg (by omega), if_pos hk]; simp)
  have r2 := hR (m.bid, 8) (by unfold numsOf; rw [if_neg (by omega), if_neg (by omega), if_neg (by omega), if_pos hk]; simp)
  have r3 := hR (m.nonce, 8) (by unfold numsOf; rw [if_neg (by omega), if_neg (by omega), if_neg (by omega), if_pos hk]; simp)
  have lb := Lib.hid (fun w => laid_calls m.bid 8 w ⟨r2.1, by have := r2.2; simp at this; omega⟩ (by omega))
  have ln := Lib.hid (fun w => laid_calls m.nonce 8 w ⟨r3.1, by have := r3.2; simp at this; omega⟩ (by omega))
  have lc := Lib.hid (fun w => num_ref m.carrier 1 w ⟨r1.1, by have := r1.2; simp at this; omega⟩ (by omega))
  rw [show (numsOf m).tail = [(m.carrier, 1), (m.bid, 8), (m.nonce, 8)] by unfold numsOf; rw [if_neg (by omega), if_neg (by omega), if_neg (by omega), if_pos hk]; rfl] at hbody
  replace hbody : BS = A0 ++ strOfNums (be m.carrier 1) ++ strOfNums (be m.bid 8) ++ strOfNums (be m.nonce 8) := hbody
  obtain ⟨A1, hA1⟩ : ∃ X, A0 ++ strOfNums (be m.carrier 1) = X := ⟨_, rfl⟩
  have z1 : A1.size = A0.size + 1 := by rw [← hA1, ByteArray.size_append, strOfNums_size, be_length]
  obtain ⟨A2, hA2⟩ : ∃ X, A1 ++ strOfNums (be m.bid 8) = X := ⟨_, rfl⟩
  have z2 : A2.size = A1.size + 8 := by rw [← hA2, ByteArray.size_append, strOfNums_size, be_length]
  obtain ⟨A3, hA3⟩ : ∃ X, A2 ++ strOfNums (be m.nonce 8) = X := ⟨_, rfl⟩
  have z3 : A3.size = A2.size + 8 := by rw [← hA3, ByteArray.size_append, strOfNums_size, be_length]
  rw [hA1, hA2, hA3] at hbody
  have k8 := hc1.b.cell hM.h48
  have q1 : (strOfNums (be m.carrier 1)).size = 1 := by rw [strOfNums_size, be_length]
  have q2 : (strOfNums (be m.bid 8)).size = 8 := by rw [strOfNums_size, be_length]
  have q3 : (strOfNums (be m.nonce 8)).size = 8 := by rw [strOfNums_size, be_length]
  generalize strOfNums (be m.carrier 1) = N1 at *
  generalize strOfNums (be m.bid 8) = N2 at *
  generalize strOfNums (be m.nonce 8) = N3 at *
  clear rr r1 r2 r3 hR hA0 hA
  go_wp2_with fail
  refine (lb.out _).mono ?_
  rintro e w2 ⟨rfl, hb2⟩
  have hc2 := hc1.below hb2
  have k9 := hc2.b.cell hM.h49
  clear k0 k8 hc1
  go_wp2_with fail
  refine (ln.out _).mono ?_
  rintro e w3 ⟨rfl, hb3⟩
  have hc3 := hc2.below hb3
  have k2 := hc3.b.cell hM.h2
  clear k9 hc2
  go_wp2_with fail
  refine (lc.out _).mono ?_
  rintro e w4 ⟨rfl, hb4⟩
  have hc9 := hc3.below hb4
  clear k2 hc3
  have p1 : A0.size + N1.size ≤ 100 := by omega
  go_wp2_with fail
  go_ret
  exact ⟨by subst hbody; exact rfl, hc9.low⟩

set_option maxHeartbeats 2000000 in
set_option maxRecDepth 100000 in
theorem body5_calls (C : Array Value) (m : MV) (w : World) (hM : MsgOf C m) (hA : MarksAt w m) (hG : Good m) (hk : m.kind = 5) : Calls Try.prog 15 #[.agg C] w fun e w' => e = .returned (.string (bodyS m)) ∧ Below w.heap.size w w' := by
  have hR := nums_rg hG.may hG.rg
  have rr := hR (m.round, 1) (by unfold numsOf; exact List.mem_cons_self)
  have nr := Lib.hid (fun w => num_ref m.round 1 w ⟨rr.1, by have := rr.2; simp at this; omega⟩ (by omega))
  have hbody := body_addS m
  generalize bodyS m = BS at hbody
  go_enter Try.func15, Try.ntmps15
  go_upto_region 1 with fail
  refine wp_world' (fun wx => ClY C m w wx) ⟨Blk.new w C _, new_below _ _, marks_below hA (new_below _ _)⟩ ?_
  rintro w0 hc0
  have k1 := hc0.b.cell hM.h1
  go_wp2_with fail
  refine (nr.out _).mono ?_
  rintro e w1 ⟨rfl, hb1⟩
  have hc1 := hc0.below hb1
  have k0 := hc1.b.cell hM.h0
  rw [hk] at k0
  clear k1 hc0 hb1 nr
  obtain ⟨A0, hA0⟩ : ∃ X, strOfNums (be m.round 1) = X := ⟨_, rfl⟩
  have z0 : A0.size = 1 := by rw [← hA0, strOfNums_size, be_length]
  rw [hA0] at hbody ⊢
  have hsh : numsOf m = (m.round, 1) :: [(m.state, 1), (m.winner + 1, 1), (m.price, 8)] := by unfold numsOf; rw [if_neg (by omega), if_neg (by omega), if_neg (by omega), if_neg (by omega)]
  have r1 := hR (m.state, 1) (by rw [hsh]; simp)
  have r2 := hR (m.winner + 1, 1) (by rw [hsh]; simp)
  have r3 := hR (m.price, 8) (by rw [hsh]; simp)
  simp at r1 r2 r3
  have lp := Lib.hid (fun w => laid_calls m.price 8 w ⟨r3.1, by omega⟩ (by omega))
  have l1 := Lib.hid (fun w => num_ref m.state 1 w ⟨r1.1, by omega⟩ (by omega))
  have l2 := Lib.hid (fun w => num_ref (m.winner + 1) 1 w ⟨r2.1, by omega⟩ (by omega))
  rw [show (numsOf m).tail = [(m.state, 1), (m.winner + 1, 1), (m.price, 8)] by rw [hsh]; rfl] at hbody
  replace hbody : BS = A0 ++ strOfNums (be m.state 1) ++ strOfNums (be (m.winner + 1) 1) ++ strOfNums (be m.price 8) := hbody
  obtain ⟨A1, hA1⟩ : ∃ X, A0 ++ strOfNums (be m.state 1) = X := ⟨_, rfl⟩
  have z1 : A1.size = A0.size + 1 := by rw [← hA1, ByteArray.size_append, strOfNums_size, be_length]
  obtain ⟨A2, hA2⟩ : ∃ X, A1 ++ strOfNums (be (m.winner + 1) 1) = X := ⟨_, rfl⟩
  have z2 : A2.size = A1.size + 1 := by rw [← hA2, ByteArray.size_append, strOfNums_size, be_length]
  obtain ⟨A3, hA3⟩ : ∃ X, A2 ++ strOfNums (be m.price 8) = X := ⟨_, rfl⟩
  have z3 : A3.size = A2.size + 8 := by rw [← hA3, ByteArray.size_append, strOfNums_size, be_length]
  rw [hA1, hA2, hA3] at hbody
  have k52 := hc1.b.cell hM.h52
  have q1 : (strOfNums (be m.state 1)).size = 1 := by rw [strOfNums_size, be_length]
  have q2 : (strOfNums (be (m.winner + 1) 1)).size = 1 := by rw [strOfNums_size, be_length]
  have q3 : (strOfNums (be m.price 8)).size = 8 := by rw [strOfNums_size, be_length]
  have s1 : IntKind.i64.wrap (m.winner + 1) = m.winner + 1 := IntWalk.i64_in _ (by omega)
  generalize strOfNums (be m.state 1) = N1 at *
  generalize strOfNums (be (m.winner + 1) 1) = N2 at *
  generalize strOfNums (be m.price 8) = N3 at *
  clear rr r1 r2 r3 hR hA0 hA hsh
  go_wp2_with fail
  refine (lp.out _).mono ?_
  rintro e w2 ⟨rfl, hb2⟩
  have hc2 := hc1.below hb2
  clear k0 k52 hc1
  have c50 : ∀ x : Later (fun _ => False) w2, x.val.cell? ⟨w.heap.size, 50, none⟩ = some (.int .i64 m.state) := fun x => x.cell (hc2.b.cell hM.h50) (by simp)
  have c51 : ∀ x : Later (fun _ => False) w2, x.val.cell? ⟨w.heap.size, 51, none⟩ = some (.int .i64 m.winner) := fun x => x.cell (hc2.b.cell hM.h51) (by simp)
  have p1 : A0.size + N1.size ≤ 100 := by omega
  go_wp2_with fail
  refine wp_region_later (Mod.refl (fun _ => False) w2) (by kernel_rfl) (by kernel_rfl) ?_
  repeat (go_big_quiet_step ((go_at_call 24; first | with_reducible exact Calls.later (l1.out _) | with_reducible exact Calls.later (l2.out _))))
  refine wpQuiet_nil ?_
  rintro _ ⟨x, rfl⟩
  have hc9 := hc2.below (x.mod.below (Nat.le_refl _) (fun _ h => h.elim))
  clear c50 c51
  go_wp2_with fail
  go_ret
  exact ⟨by subst hbody; exact rfl, hc9.low⟩

theorem dig_cvt {w : World} {b off : Nat} (dg : List UInt8) (hl : dg.length = 32) (h : ∀ i, i < 32 → w.cell? ⟨b, off + i, none⟩ = some (cell (dg.getD i 0))) : (convert 26 9 (.slice (some ⟨b, off, none⟩) 32 32)).run Try.prog w = .ok (.string (strOfNums (byN dg))) w := by
  refine run_convert_bytes_arg w 26 5 Try.underlying26 Try.underlying5 b off 32 32 (byN dg) (by rw [byN_length, hl]) (fun i hi => ?_) 9 Try.underlying9
  rw [h i hi]
  have : i < dg.length := by omega
  simp [cell, byN, List.getD_eq_getElem?_getD, this]

set_option maxHeartbeats 2000000 in
set_option maxRecDepth 100000 in
theorem body2_calls (C : Array Value) (m : MV) (w : World) (hM : MsgOf C m) (hA : MarksAt w m) (hG : Good m) (hk : m.kind = 2) : Calls Try.prog 15 #[.agg C] w fun e w' => e = .returned (.string (bodyS m)) ∧ Below w.heap.size w w' := by
  have hR := nums_rg hG.may hG.rg
  have rr := hR (m.round, 1) (by unfold numsOf; exact List.mem_cons_self)
  have nr := Lib.hid (fun w => num_ref m.round 1 w ⟨rr.1, by have := rr.2; simp at this; omega⟩ (by omega))
  have hbody := body_addS m
  generalize bodyS m = BS at hbody
  go_enter Try.func15, Try.ntmps15
  go_upto_region 1 with fail
  refine wp_world' (fun wx => ClY C m w wx) ⟨Blk.new w C _, new_below _ _, marks_below hA (new_below _ _)⟩ ?_
  rintro w0 hc0
  have k1 := hc0.b.cell hM.h1
  go_wp2_with fail
  refine (nr.out _).mono ?_
  rintro e w1 ⟨rfl, hb1⟩
  have hc1 := hc0.below hb1
  have k0 := hc1.b.cell hM.h0
  rw [hk] at k0
  clear k1 hc0 hb1 nr
  obtain ⟨A0, hA0⟩ : ∃ X, strOfNums (be m.round 1) = X := ⟨_, rfl⟩
  have z0 : A0.size = 1 := by rw [← hA0, strOfNums_size, be_length]
  rw [hA0] at hbody ⊢
  have hsh : numsOf m = (m.round, 1) :: (m.carrier, 1) :: ones m.dg := by unfold numsOf; rw [if_neg (by omega), if_pos hk]
  have r1 := hR (m.carrier, 1) (by rw [hsh]; simp)
  simp at r1
  have l1 := Lib.hid (fun w => num_ref m.carrier 1 w ⟨r1.1, by omega⟩ (by omega))
  rw [show (numsOf m).tail = (m.carrier, 1) :: ones m.dg by rw [hsh]; rfl] at hbody
  replace hbody : BS = addS (A0 ++ strOfNums (be m.carrier 1)) (ones m.dg) := hbody
  rw [addS_ones] at hbody
  obtain ⟨A1, hA1⟩ : ∃ X, A0 ++ strOfNums (be m.carrier 1) = X := ⟨_, rfl⟩
  have z1 : A1.size = A0.size + 1 := by rw [← hA1, ByteArray.size_append, strOfNums_size, be_length]
  rw [hA1] at hbody
  have q1 : (strOfNums (be m.carrier 1)).size = 1 := by rw [strOfNums_size, be_length]
  have q2 : (strOfNums (byN m.dg)).size = 32 := by rw [strOfNums_size, byN_length, hM.l15]
  have hcv : ∀ x : Later (fun _ => False) w1, (convert 26 9 (.slice (some ⟨w.heap.size, 15, none⟩) 32 32)).run Try.prog x.val = .ok (.string (strOfNums (byN m.dg))) x.val := fun x =>
    dig_cvt m.dg hM.l15 (fun i hi => x.cell (hc1.b.cell (hM.h15 i hi)) (by simp))
  generalize strOfNums (be m.carrier 1) = N1 at *
  generalize strOfNums (byN m.dg) = N2 at *
  clear rr r1 hR hA0 hA hsh
  have c2 : ∀ x : Later (fun _ => False) w1, x.val.cell? ⟨w.heap.size, 2, none⟩ = some (.int .i64 m.carrier) := fun x => x.cell (hc1.b.cell hM.h2) (by simp)
  have p1 : A0.size + N1.size ≤ 100 := by omega
  go_wp2_with fail
  refine wp_region_later (Mod.refl (fun _ => False) w1) (by kernel_rfl) (by kernel_rfl) ?_
  repeat (go_big_quiet_step ((go_at_call 24; exact Calls.later (l1.out _))))
  refine wpQuiet_nil ?_
  rintro _ ⟨x, rfl⟩
  have hc9 := hc1.below (x.mod.below (Nat.le_refl _) (fun _ h => h.elim))
  clear c2 hcv
  go_wp2_with fail
  go_ret
  exact ⟨by subst hbody; exact rfl, hc9.low⟩

set_option maxHeartbeats 2000000 in
set_option maxRecDepth 100000 in
theorem body1_calls (C : Array Value) (m : MV) (w : World) (hM : MsgOf C m) (hA : MarksAt w m) (hG : Good m) (hk : m.kind = 1) : Calls Try.prog 15 #[.agg C] w fun e w' => e = .returned (.string (bodyS m)) ∧ Below w.heap.size w w' := by
  have hR := nums_rg hG.may hG.rg
  have rr := hR (m.round, 1) (by unfold numsOf; exact List.mem_cons_self)
  have nr := Lib.hid (fun w => num_ref m.round 1 w ⟨rr.1, by have := rr.2; simp at this; omega⟩ (by omega))
  have hbody := body_addS m
  generalize bodyS m = BS at hbody
  go_enter Try.func15, Try.ntmps15
  go_upto_region 1 with fail
  refine wp_world' (fun wx => ClY C m w wx) ⟨Blk.new w C _, new_below _ _, marks_below hA (new_below _ _)⟩ ?_
  rintro w0 hc0
  have k1 := hc0.b.cell hM.h1
  go_wp2_with fail
  refine (nr.out _).mono ?_
  rintro e w1 ⟨rfl, hb1⟩
  have hc1 := hc0.below hb1
  have k0 := hc1.b.cell hM.h0
  rw [hk] at k0
  clear k1 hc0 hb1 nr
  obtain ⟨A0, hA0⟩ : ∃ X, strOfNums (be m.round 1) = X := ⟨_, rfl⟩
  have z0 : A0.size = 1 := by rw [← hA0, strOfNums_size, be_length]
  rw [hA0] at hbody ⊢
  have hsh : numsOf m = (m.round, 1) :: [(m.req, 1), (m.reserve, 4), ((m.rq 0), 2), ((m.rq 1), 2), ((m.rq 2), 2), ((m.rq 3), 2), ((m.rq 4), 4), ((m.rq 5), 4), ((m.rq 6), 4), ((m.rq 7), 4), ((m.rq 8), 2), ((m.rq 9), 2)] := by unfold numsOf; rw [if_pos hk]; rfl
  have r1 := hR (m.req, 1) (by rw [hsh]; simp)
  simp at r1
  have l1 := Lib.hid (fun w => num_ref m.req 1 w ⟨r1.1, by omega⟩ (by omega))
  have r2 := hR (m.reserve, 4) (by rw [hsh]; simp)
  simp at r2
  have l2 := Lib.hid (fun w => num_ref m.reserve 4 w ⟨r2.1, by omega⟩ (by omega))
  have r3 := hR ((m.rq 0), 2) (by rw [hsh]; simp)
  simp at r3
  have l3 := Lib.hid (fun w => num_ref (m.rq 0) 2 w ⟨r3.1, by omega⟩ (by omega))
  have r4 := hR ((m.rq 1), 2) (by rw [hsh]; simp)
  simp at r4
  have l4 := Lib.hid (fun w => num_ref (m.rq 1) 2 w ⟨r4.1, by omega⟩ (by omega))
  have r5 := hR ((m.rq 2), 2) (by rw [hsh]; simp)
  simp at r5
  have l5 := Lib.hid (fun w => num_ref (m.rq 2) 2 w ⟨r5.1, by omega⟩ (by omega))
  have r6 := hR ((m.rq 3), 2) (by rw [hsh]; simp)
  simp at r6
  have l6 := Lib.hid (fun w => num_ref (m.rq 3) 2 w ⟨r6.1, by omega⟩ (by omega))
  have r7 := hR ((m.rq 4), 4) (by rw [hsh]; simp)
  simp at r7
  have l7 := Lib.hid (fun w => num_ref (m.rq 4) 4 w ⟨r7.1, by omega⟩ (by omega))
  have r8 := hR ((m.rq 5), 4) (by rw [hsh]; simp)
  simp at r8
  have l8 := Lib.hid (fun w => num_ref (m.rq 5) 4 w ⟨r8.1, by omega⟩ (by omega))
  have r9 := hR ((m.rq 6), 4) (by rw [hsh]; simp)
  simp at r9
  have l9 := Lib.hid (fun w => num_ref (m.rq 6) 4 w ⟨r9.1, by omega⟩ (by omega))
  have r10 := hR ((m.rq 7), 4) (by rw [hsh]; simp)
  simp at r10
  have l10 := Lib.hid (fun w => num_ref (m.rq 7) 4 w ⟨r10.1, by omega⟩ (by omega))
  have r11 := hR ((m.rq 8), 2) (by rw [hsh]; simp)
  simp at r11
  have l11 := Lib.hid (fun w => num_ref (m.rq 8) 2 w ⟨r11.1, by omega⟩ (by omega))
  have r12 := hR ((m.rq 9), 2) (by rw [hsh]; simp)
  simp at r12
  have l12 := Lib.hid (fun w => num_ref (m.rq 9) 2 w ⟨r12.1, by omega⟩ (by omega))
  rw [show (numsOf m).tail = [(m.req, 1), (m.reserve, 4), ((m.rq 0), 2), ((m.rq 1), 2), ((m.rq 2), 2), ((m.rq 3), 2), ((m.rq 4), 4), ((m.rq 5), 4), ((m.rq 6), 4), ((m.rq 7), 4), ((m.rq 8), 2), ((m.rq 9), 2)] by rw [hsh]; rfl] at hbody
  replace hbody : BS = A0 ++ strOfNums (be m.req 1) ++ strOfNums (be m.reserve 4) ++ strOfNums (be (m.rq 0) 2) ++ strOfNums (be (m.rq 1) 2) ++ strOfNums (be (m.rq 2) 2) ++ strOfNums (be (m.rq 3) 2) ++ strOfNums (be (m.rq 4) 4) ++ strOfNums (be (m.rq 5) 4) ++ strOfNums (be (m.rq 6) 4) ++ strOfNums (be (m.rq 7) 4) ++ strOfNums (be (m.rq 8) 2) ++ strOfNums (be (m.rq 9) 2) := hbody
  obtain ⟨A1, hA1⟩ : ∃ X, A0 ++ strOfNums (be m.req 1) = X := ⟨_, rfl⟩
  have z1 : A1.size = A0.size + 1 := by rw [← hA1, ByteArray.size_append, strOfNums_size, be_length]
  obtain ⟨A2, hA2⟩ : ∃ X, A1 ++ strOfNums (be m.reserve 4) = X := ⟨_, rfl⟩
  have z2 : A2.size = A1.size + 4 := by rw [← hA2, ByteArray.size_append, strOfNums_size, be_length]
  obtain ⟨A3, hA3⟩ : ∃ X, A2 ++ strOfNums (be (m.rq 0) 2) = X := ⟨_, rfl⟩
  have z3 : A3.size = A2.size + 2 := by rw [← hA3, ByteArray.size_append, strOfNums_size, be_length]
  obtain ⟨A4, hA4⟩ : ∃ X, A3 ++ strOfNums (be (m.rq 1) 2) = X := ⟨_, rfl⟩
  have z4 : A4.size = A3.size + 2 := by rw [← hA4, ByteArray.size_append, strOfNums_size, be_length]
  obtain ⟨A5, hA5⟩ : ∃ X, A4 ++ strOfNums (be (m.rq 2) 2) = X := ⟨_, rfl⟩
  have z5 : A5.size = A4.size + 2 := by rw [← hA5, ByteArray.size_append, strOfNums_size, be_length]
  obtain ⟨A6, hA6⟩ : ∃ X, A5 ++ strOfNums (be (m.rq 3) 2) = X := ⟨_, rfl⟩
  have z6 : A6.size = A5.size + 2 := by rw [← hA6, ByteArray.size_append, strOfNums_size, be_length]
  obtain ⟨A7, hA7⟩ : ∃ X, A6 ++ strOfNums (be (m.rq 4) 4) = X := ⟨_, rfl⟩
  have z7 : A7.size = A6.size + 4 := by rw [← hA7, ByteArray.size_append, strOfNums_size, be_length]
  obtain ⟨A8, hA8⟩ : ∃ X, A7 ++ strOfNums (be (m.rq 5) 4) = X := ⟨_, rfl⟩
  have z8 : A8.size = A7.size + 4 := by rw [← hA8, ByteArray.size_append, strOfNums_size, be_length]
  obtain ⟨A9, hA9⟩ : ∃ X, A8 ++ strOfNums (be (m.rq 6) 4) = X := ⟨_, rfl⟩
  have z9 : A9.size = A8.size + 4 := by rw [← hA9, ByteArray.size_append, strOfNums_size, be_length]
  obtain ⟨A10, hA10⟩ : ∃ X, A9 ++ strOfNums (be (m.rq 7) 4) = X := ⟨_, rfl⟩
  have z10 : A10.size = A9.size + 4 := by rw [← hA10, ByteArray.size_append, strOfNums_size, be_length]
  obtain ⟨A11, hA11⟩ : ∃ X, A10 ++ strOfNums (be (m.rq 8) 2) = X := ⟨_, rfl⟩
  have z11 : A11.size = A10.size + 2 := by rw [← hA11, ByteArray.size_append, strOfNums_size, be_length]
  obtain ⟨A12, hA12⟩ : ∃ X, A11 ++ strOfNums (be (m.rq 9) 2) = X := ⟨_, rfl⟩
  have z12 : A12.size = A11.size + 2 := by rw [← hA12, ByteArray.size_append, strOfNums_size, be_length]
  rw [hA1, hA2, hA3, hA4, hA5, hA6, hA7, hA8, hA9, hA10, hA11, hA12] at hbody
  have q1 : (strOfNums (be m.req 1)).size = 1 := by rw [strOfNums_size, be_length]
  have q2 : (strOfNums (be m.reserve 4)).size = 4 := by rw [strOfNums_size, be_length]
  have q3 : (strOfNums (be (m.rq 0) 2)).size = 2 := by rw [strOfNums_size, be_length]
  have q4 : (strOfNums (be (m.rq 1) 2)).size = 2 := by rw [strOfNums_size, be_length]
  have q5 : (strOfNums (be (m.rq 2) 2)).size = 2 := by rw [strOfNums_size, be_length]
  have q6 : (strOfNums (be (m.rq 3) 2)).size = 2 := by rw [strOfNums_size, be_length]
  have q7 : (strOfNums (be (m.rq 4) 4)).size = 4 := by rw [strOfNums_size, be_length]
  have q8 : (strOfNums (be (m.rq 5) 4)).size = 4 := by rw [strOfNums_size, be_length]
  have q9 : (strOfNums (be (m.rq 6) 4)).size = 4 := by rw [strOfNums_size, be_length]
  have q10 : (strOfNums (be (m.rq 7) 4)).size = 4 := by rw [strOfNums_size, be_length]
  have q11 : (strOfNums (be (m.rq 8) 2)).size = 2 := by rw [strOfNums_size, be_length]
  have q12 : (strOfNums (be (m.rq 9) 2)).size = 2 := by rw [strOfNums_size, be_length]
  obtain ⟨R, hRr⟩ : ∃ R, C.extract 5 (5 + 10) = R := ⟨_, rfl⟩
  have hRs : (10 : Nat) = R.size := by rw [← hRr]; simp; have := hM.size; omega
  have hRi : ∀ i, i < 10 → R[i]? = some (.int .i64 (m.rq i)) := fun i hi => by
    rw [← hRr, Array.getElem?_extract_of_lt (by have := hM.size; omega)]
    have := hM.h5 i hi
    rw [Array.getElem?_eq_getElem (by have := hM.size; omega)] at this
    exact this
  have hlr := load_part (P := Try.prog) w1 _ C _ hc1.b 5 10 (by rw [hM.size]; omega) 35 _ Try.underlying35 rfl (by kernel_rfl)
  rw [hRr] at hlr
  have Hlr := Lib.hid hlr
  have HRs := Lib.hid hRs
  have hone : Hid (∀ v ∈ R.toList, v.oneCell' = true) := Lib.hid (by rw [← hRr]; exact ext_one (msg_one hM) _ _)
  have hinf := Lib.hid (show (Try.prog.info? 35).map (·.size) = some R.size by rw [← hRs]; kernel_rfl)
  clear rr hR hA0 hA hsh hlr hRs hRr
  generalize strOfNums (be m.req 1) = N1 at *
  generalize strOfNums (be m.reserve 4) = N2 at *
  generalize strOfNums (be (m.rq 0) 2) = N3 at *
  generalize strOfNums (be (m.rq 1) 2) = N4 at *
  generalize strOfNums (be (m.rq 2) 2) = N5 at *
  generalize strOfNums (be (m.rq 3) 2) = N6 at *
  generalize strOfNums (be (m.rq 4) 4) = N7 at *
  generalize strOfNums (be (m.rq 5) 4) = N8 at *
  generalize strOfNums (be (m.rq 6) 4) = N9 at *
  generalize strOfNums (be (m.rq 7) 4) = N10 at *
  generalize strOfNums (be (m.rq 8) 2) = N11 at *
  generalize strOfNums (be (m.rq 9) 2) = N12 at *
  clear r1 r2 r3 r4 r5 r6 r7 r8 r9 r10 r11 r12
  go_upto_region 5 with (first | (refine wpList_load_v rfl 35 _ rfl ⟨w.heap.size, 5, none⟩ rfl _ Hlr.out ?_) | (refine wpList_store_new rfl 35 _ _ rfl rfl rfl _ R _ rfl (by exact HRs.out) hone.out hinf.out ?_))
  have hc2 := hc1.below (new_below w1 (.cells R 35))
  refine wp_world' (fun wx => ClY C m w wx ∧ Blk wx w1.heap.size R 35) ⟨hc2, Blk.new _ _ _⟩ ?_
  rintro w2 ⟨hc2, hb2⟩
  generalize w1.heap.size = mb at *
  clear Hlr hone hinf HRs hc1 k0
  have e3 : ∀ x : Later (fun _ => False) w2, x.val.cell? ⟨w.heap.size, 3, none⟩ = some (.int .i64 m.req) := fun x => x.cell (hc2.b.cell hM.h3) (by simp)
  have e4 : ∀ x : Later (fun _ => False) w2, x.val.cell? ⟨w.heap.size, 4, none⟩ = some (.int .i64 m.reserve) := fun x => x.cell (hc2.b.cell hM.h4) (by simp)
  have f0 : ∀ x : Later (fun _ => False) w2, x.val.cell? ⟨mb, 0, none⟩ = some (.int .i64 (m.rq 0)) := fun x => x.cell (hb2.cell (hRi 0 (by omega))) (by simp)
  have f1 : ∀ x : Later (fun _ => False) w2, x.val.cell? ⟨mb, 1, none⟩ = some (.int .i64 (m.rq 1)) := fun x => x.cell (hb2.cell (hRi 1 (by omega))) (by simp)
  have f2 : ∀ x : Later (fun _ => False) w2, x.val.cell? ⟨mb, 2, none⟩ = some (.int .i64 (m.rq 2)) := fun x => x.cell (hb2.cell (hRi 2 (by omega))) (by simp)
  have f3 : ∀ x : Later (fun _ => False) w2, x.val.cell? ⟨mb, 3, none⟩ = some (.int .i64 (m.rq 3)) := fun x => x.cell (hb2.cell (hRi 3 (by omega))) (by simp)
  go_wp2_with fail
  refine wp_region_later (Mod.refl (fun _ => False) w2) (by kernel_rfl) (by kernel_rfl) ?_
  repeat (go_big_quiet_step ((go_at_call 24; first | with_reducible exact Calls.later (l1.out _) | with_reducible exact Calls.later (l2.out _) | with_reducible exact Calls.later (l3.out _) | with_reducible exact Calls.later (l4.out _) | with_reducible exact Calls.later (l5.out _) | with_reducible exact Calls.later (l6.out _))))
  refine wpQuiet_nil ?_
  rintro w3 ⟨⟨_, xw3⟩, rfl⟩
  have bw3 : Below w2.heap.size w2 w3 := xw3.below (Nat.le_refl _) (fun _ h => h.elim)
  have cw3 := hc2.below bw3
  have dw3 := hb2.mod xw3 (fun h => h)
  clear e3 e4 f0 f1 f2 f3
  have f4 : ∀ x : Later (fun _ => False) w3, x.val.cell? ⟨mb, 4, none⟩ = some (.int .i64 (m.rq 4)) := fun x => x.cell (dw3.cell (hRi 4 (by omega))) (by simp)
  have f5 : ∀ x : Later (fun _ => False) w3, x.val.cell? ⟨mb, 5, none⟩ = some (.int .i64 (m.rq 5)) := fun x => x.cell (dw3.cell (hRi 5 (by omega))) (by simp)
  have f6 : ∀ x : Later (fun _ => False) w3, x.val.cell? ⟨mb, 6, none⟩ = some (.int .i64 (m.rq 6)) := fun x => x.cell (dw3.cell (hRi 6 (by omega))) (by simp)
  have f7 : ∀ x : Later (fun _ => False) w3, x.val.cell? ⟨mb, 7, none⟩ = some (.int .i64 (m.rq 7)) := fun x => x.cell (dw3.cell (hRi 7 (by omega))) (by simp)
  go_wp2_with fail
  refine wp_region_later (Mod.refl (fun _ => False) w3) (by kernel_rfl) (by kernel_rfl) ?_
  repeat (go_big_quiet_step ((go_at_call 24; first | with_reducible exact Calls.later (l7.out _) | with_reducible exact Calls.later (l8.out _) | with_reducible exact Calls.later (l9.out _) | with_reducible exact Calls.later (l10.out _))))
  refine wpQuiet_nil ?_
  rintro w4 ⟨⟨_, xw4⟩, rfl⟩
  have bw4 : Below w3.heap.size w3 w4 := xw4.below (Nat.le_refl _) (fun _ h => h.elim)
  have cw4 := cw3.below bw4
  have dw4 := dw3.mod xw4 (fun h => h)
  clear f4 f5 f6 f7
  have f8 : ∀ x : Later (fun _ => False) w4, x.val.cell? ⟨mb, 8, none⟩ = some (.int .i64 (m.rq 8)) := fun x => x.cell (dw4.cell (hRi 8 (by omega))) (by simp)
  have f9 : ∀ x : Later (fun _ => False) w4, x.val.cell? ⟨mb, 9, none⟩ = some (.int .i64 (m.rq 9)) := fun x => x.cell (dw4.cell (hRi 9 (by omega))) (by simp)
  go_wp2_with fail
  refine wp_region_later (Mod.refl (fun _ => False) w4) (by kernel_rfl) (by kernel_rfl) ?_
  repeat (go_big_quiet_step ((go_at_call 24; first | with_reducible exact Calls.later (l11.out _) | with_reducible exact Calls.later (l12.out _))))
  refine wpQuiet_nil ?_
  rintro w5 ⟨⟨_, xw5⟩, rfl⟩
  have bw5 : Below w4.heap.size w4 w5 := xw5.below (Nat.le_refl _) (fun _ h => h.elim)
  have cw5 := cw4.below bw5
  have dw5 := dw4.mod xw5 (fun h => h)
  clear f8 f9
  go_wp2_with fail
  go_ret
  exact ⟨by subst hbody; exact rfl, cw5.low⟩
end Go.Proofs.Ytcipdimnbleljaa
