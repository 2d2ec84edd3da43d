/-
  Layer 7, the program's: the parts of a route's stops, as an iterator.
  Layer 7, the program's: wrong.
  Layer 7, the program's: next.
-/
import Derived.Test.YtaijimckbpplnaaTm
namespace Go.Proofs.Ytaijimckbpplnaa
open Go.RowKit
attribute [local go_sem] Oper.semAt_some

section
variable {F : Fence} {n : Nat} {P : Program} {ops : Array Oper} {rest : List Oper} {o : Oper} {a : Act} {w w' : World} {Q : Exit → Act → World → Prop}
theorem wpListIn_v (hF : ∀ f, F.fn f) (hs : o.semAt F.round a.eval = execOp a.eval o) (hgd : Region.wanted o (yielded ops a.tmps) = true) (v : Value)
    (hrun : (execOp a.eval o).run P w = .ok (.value v) w') (h : wpListIn F n P ops Q rest (a.put o.dst v) w') : wpListIn F n P ops Q (o :: rest) a w :=
  wpListIn_step fun K hK => by
    rw [if_pos hgd]
    refine ⟨fun f _ => hF f, ?_⟩
    rw [hs, hrun]
    exact hK _ _ h
theorem wpListIn_sw (hF : ∀ f, F.fn f) (hs : o.semAt F.round a.eval = execOp a.eval o) (hgd : Region.wanted o (yielded ops a.tmps) = true) (hdst : o.dst = none)
    (hrun : (execOp a.eval o).run P w = .ok .skip w') (h : wpListIn F n P ops Q rest a w') : wpListIn F n P ops Q (o :: rest) a w :=
  wpListIn_step fun K hK => by
    rw [if_pos hgd]
    refine ⟨fun f _ => hF f, ?_⟩
    rw [hs, hrun]
    show K (a.put o.dst undef) _
    rw [hdst]
    exact hK _ _ h
theorem wpListIn_load_v (hF : ∀ f, F.fn f) (hs : o.semAt F.round a.eval = execOp a.eval o) (hgd : Region.wanted o (yielded ops a.tmps) = true) (ty : TypeId) (x : Operand) (ho : o.op = .load ty x)
    (p : Addr) (hx : a.eval x = .pointer (some p)) (v : Value) (hrun : (loadVar ty p).run P w = .ok v w) (h : wpListIn F n P ops Q rest (a.put o.dst v) w) : wpListIn F n P ops Q (o :: rest) a w :=
  wpListIn_v hF hs hgd v (run_load_v ho hx hrun) h
end

end Go.Proofs.Ytaijimckbpplnaa
namespace Go.Proofs.Ytaijimckbpplnaa
open Go.RowKit
attribute [local go_sem] Oper.semAt_some

theorem wpIn_world {F : Fence} {n : Nat} {P : Program} {c : Code} {Q : Exit → Act → World → Prop} {a : Act} {W : World} (R : World → Prop) (h : R W) (k : ∀ wx, R wx → c.wpIn F n P Q a wx) : c.wpIn F n P Q a W := k W h

theorem wpListIn_store_new {F : Fence} {n : Nat} {P : Program} {ops : Array Oper} {rest : List Oper} {o : Oper} {a : Act} {w : World} {Q : Exit → Act → World → Prop} (hF : ∀ f, F.fn f) (hse : o.semAt F.round a.eval = execOp a.eval o) (hgd : Region.wanted o (yielded ops a.tmps) = true) (ty : TypeId) (x y : Operand) (ho : o.op = .store ty x y) (hdst : o.dst = none)
    (hx : a.eval x = .pointer (some ⟨w.heap.size, 0, none⟩)) (C cs : Array Value) (t : TypeId) (hy : a.eval y = .agg cs) (hs : C.size = cs.size) (h1 : ∀ v ∈ cs.toList, v.oneCell' = true)
    (hi : (P.info? ty).map (·.size) = some cs.size)
    (h : wpListIn F n P ops Q rest a (w.alloc (.cells cs t))) : wpListIn F n P ops Q (o :: rest) a (w.alloc (.cells C t)) :=
  wpListIn_sw hF hse hgd hdst (by
    unfold execOp
    simp only [ho, hx, hy, Instr.storeAt, Instr.sureAddr, Sem.run_bind, Sem.run_pure, Result.andThen_ok, run_storeVar_new w ty C cs t hs h1 hi]) h
theorem res_cell1 {P : Program} {fn : Func} {p : Tmp} {ty : TypeId} (h : fn.results = #[.cell p ty]) {tmps : Array Value} {w : World} {g : Nat} {v : Value} (hp : tmps.getD p undef = .pointer (some ⟨g, 0, none⟩)) (hrun : (loadVar ty ⟨g, 0, none⟩).run P w = .ok v w) :
    (results fn tmps).run P w = .ok v w := by
  rw [Array.getD_eq_getD_getElem?] at hp
  simp [results, h, hp, asAddr, hrun]
theorem run_cellE {w : World} {g : Nat} {v : Int} (h : w.cell? ⟨g, 0, none⟩ = some (.int .i64 v)) : (loadVar 38 ⟨g, 0, none⟩).run Try.prog w = .ok (.int .i64 v) w := by go_simp

end Go.Proofs.Ytaijimckbpplnaa
namespace Go.Proofs.Ytaijimckbpplnaa
open Go.RowKit

end Go.Proofs.Ytaijimckbpplnaa
