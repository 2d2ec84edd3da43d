/-
  Layer 9: whether any times serve a route: the program's feas (part, wrong, stands, loads, goes).
-/
import Derived.Test.YtpbmeeogledmdaeMi
import Derived.Test.YtpbmeeogledmdaeTmT
import Derived.Test.YtpbmeeogledmdaeAg
import Derived.Test.YtpbmeeogledmdaeDr
namespace Go.Proofs.Ytpbmeeogledmdae
open Go.RowKit

theorem Blk.newAt {w : World} {g : Nat} (hg : g = w.heap.size) (C : Array Value) (t : TypeId) : Blk (w.alloc (.cells C t)) g C t := by
  subst hg
  exact Blk.new w C t

theorem set22 {W : World} {a b : Nat} {u1 u2 u3 u4 v1 v2 v3 v4 : Value} {t1 t2 : TypeId} (h1 : Blk W a #[u1, u2] t1) (h2 : Blk W b #[u3, u4] t2) (hab : a ≠ b) :
    Blk ((((W.setCell ⟨a, 0, none⟩ v1).setCell ⟨a, 1, none⟩ v2).setCell ⟨b, 0, none⟩ v3).setCell ⟨b, 1, none⟩ v4).drew a #[v1, v2] t1 ∧
    Blk ((((W.setCell ⟨a, 0, none⟩ v1).setCell ⟨a, 1, none⟩ v2).setCell ⟨b, 0, none⟩ v3).setCell ⟨b, 1, none⟩ v4).drew b #[v3, v4] t2 :=
  ⟨((((h1.set 0 v1).set 1 v2).other hab v3).other hab v4).drew, ((((h2.other (fun e => hab e.symm) v1).other (fun e => hab e.symm) v2).set 0 v3).set 1 v4).drew⟩


set_option maxHeartbeats 400000 in
set_option maxRecDepth 100000 in
theorem wrong_calls (e p i : Int) (w : World) :
    Calls Try.prog 31 #[.int .i64 e, .int .i64 p, .int .i64 i] w fun E w' => (∃ b, E = .returned (.iface 136 (.pointer (some ⟨b, 0, none⟩)))) ∧ Below w.heap.size w w' := by
  go_enter Try.func31, Try.ntmps31
  go_wp2_with fail
  go_ret
  exact ⟨⟨_, rfl⟩, (Below.refl _ _).alloc (Nat.le_refl _) _⟩

/-- how a route is walked: the vehicle, the requests, what became of each, where, when, how much is on board -/
def wkR (x y cp st en : Int) (p' : Option Addr) (n c' mb : Nat) (ax ay now bd : Int) : Array Value :=
  #[.int .i64 x, .int .i64 y, .int .i64 cp, .int .i64 st, .int .i64 en, .slice p' n c', .map (some mb), .int .i64 ax, .int .i64 ay, .int .i64 now, .int .i64 bd]
abbrev MapI (w : World) (b n : Nat) (m : Int → Option Int) : Prop := MapV Try.prog 3 3 w b n m
def stB (n : Nat) (m : Int → Option Int) (s : Int × Int) : Bool := decide (¬ s.1 < 0 ∧ ¬ s.1 ≥ n ∧ ¬ s.2 ≥ 2 ∧ (m s.1).getD 0 = s.2)
def stM (n : Nat) (m : Int → Option Int) (s : Int × Int) : Int → Option Int := if stB n m s then fun j => if j = s.1 then some (s.2 + 1) else m j else m

theorem run_lookV {P : Program} {ρ : Operand → Value} {o : Oper} {w : World} {x y : Operand} {t : TypeId} {b : Nat} {i : Int} {v : Value} (ho : o.op = .lookup t x y false) (hx : ρ x = .map (some b)) (hy : ρ y = .int .i64 i)
    (hrun : (Instr.lookup t (.map (some b)) (.int .i64 i) false).run P w = .ok v w) : (execOp ρ o).run P w = .ok (.value v) w := by
  simp [execOp, ho, hx, hy, hrun, Result.andThen]
theorem run_mapU {P : Program} {ρ : Operand → Value} {o : Oper} {w w' : World} {x y z : Operand} {t : TypeId} {b : Nat} {i v : Int} (ho : o.op = .mapUpdate t x y z) (hx : ρ x = .map (some b)) (hy : ρ y = .int .i64 i) (hz : ρ z = .int .i64 v)
    (hrun : (Instr.mapUpdate t (.map (some b)) (.int .i64 i) (.int .i64 v)).run P w = .ok () w') : (execOp ρ o).run P w = .ok .skip w' := by
  simp [execOp, ho, hx, hy, hz, hrun, Result.andThen]
theorem MapI.at {w : World} {b n : Nat} {m : Int → Option Int} (h : MapI w b n m) {i : Int} (hi : wf64 i) : (Instr.lookup 74 (.map (some b)) (.int .i64 i) false).run Try.prog w = .ok (.int .i64 ((m i).getD 0)) w :=
  MapV.get h Try.underlying3 Try.underlying3 Try.underlying74 (by kernel_rfl) hi


def ldE (cp k bd q : Int) : Int := if k = 1 then 0 else if bd + q > cp then 10 else 0
def ldB (k bd q : Int) : Int := if k = 1 then bd - q else bd + q


/-- two boxes of two sorts, made and filled in some order -/
def z2 : Array Value := #[.int .i64 0, .int .i64 0]
structure ClP (V1 V2 : Array Value) (t1 t2 : TypeId) (w : World) (x : Nat × Nat) (a0 a1 s0 s1 : Bool) (W : World) : Prop where
  m : Mod (fun _ => False) w W
  x0 : a0 = true → Blk W x.1 (bif s0 then V1 else z2) t1 ∧ w.heap.size ≤ x.1
  x1 : a1 = true → Blk W x.2 (bif s1 then V2 else z2) t2 ∧ w.heap.size ≤ x.2
  ne : a0 = true → a1 = true → x.1 ≠ x.2
section
variable {V1 V2 : Array Value} {t1 t2 : TypeId} {w W : World} {x : Nat × Nat} {a0 a1 s0 s1 : Bool}
theorem ClP.mod (h : ClP V1 V2 t1 t2 w x a0 a1 s0 s1 W) {W' : World} (hm : Mod (fun _ => False) W W') : ClP V1 V2 t1 t2 w x a0 a1 s0 s1 W' :=
  ⟨h.m.trans hm, fun e => ⟨(h.x0 e).1.mod hm (fun h => h), (h.x0 e).2⟩, fun e => ⟨(h.x1 e).1.mod hm (fun h => h), (h.x1 e).2⟩, h.ne⟩
theorem ClP.box0 (h : ClP V1 V2 t1 t2 w x false a1 false s1 W) : ClP V1 V2 t1 t2 w (W.heap.size, x.2) true a1 false s1 (W.alloc (.cells z2 t1)) :=
  ⟨h.m.alloc _, fun _ => ⟨Blk.new W _ _, h.m.size⟩, fun e => ⟨(h.x1 e).1.alloc _, (h.x1 e).2⟩, fun _ e => by have := (h.x1 e).1.lt; show W.heap.size ≠ x.2; omega⟩
theorem ClP.box1 (h : ClP V1 V2 t1 t2 w x a0 false s0 false W) : ClP V1 V2 t1 t2 w (x.1, W.heap.size) a0 true s0 false (W.alloc (.cells z2 t2)) :=
  ⟨h.m.alloc _, fun e => ⟨(h.x0 e).1.alloc _, (h.x0 e).2⟩, fun _ => ⟨Blk.new W _ _, h.m.size⟩, fun e _ => by have := (h.x0 e).1.lt; show x.1 ≠ W.heap.size; omega⟩
theorem ClP.put0 (h : ClP V1 V2 t1 t2 w x true a1 false s1 W) : ClP V1 V2 t1 t2 w x true a1 true s1 (W.setRow x.1 V1) :=
  have hx := h.x0 rfl
  have hm := mod_row W x.1 V1
  ⟨⟨h.m.os, h.m.tape, h.m.output, by simpa [World.setRow] using h.m.size, fun k hk hs => (hm.block k (Nat.lt_of_lt_of_le hk h.m.size) (by show ¬ _ = _; omega)).trans (h.m.block k hk hs)⟩,
    fun _ => ⟨setRow_heap W x.1 z2 V1 t1 (0, 0) hx.1, hx.2⟩, fun e => ⟨(h.x1 e).1.mod hm (Ne.symm (h.ne rfl e)), (h.x1 e).2⟩, h.ne⟩
theorem ClP.put1 (h : ClP V1 V2 t1 t2 w x a0 true s0 false W) : ClP V1 V2 t1 t2 w x a0 true s0 true (W.setRow x.2 V2) :=
  have hx := h.x1 rfl
  have hm := mod_row W x.2 V2
  ⟨⟨h.m.os, h.m.tape, h.m.output, by simpa [World.setRow] using h.m.size, fun k hk hs => (hm.block k (Nat.lt_of_lt_of_le hk h.m.size) (by show ¬ _ = _; omega)).trans (h.m.block k hk hs)⟩,
    fun e => ⟨(h.x0 e).1.mod hm (h.ne e rfl), (h.x0 e).2⟩, fun _ => ⟨setRow_heap W x.2 z2 V2 t2 (0, 0) hx.1, hx.2⟩, h.ne⟩
end
section
variable {ρ : Operand → Value} {o : Oper} {w : World} {x y : Operand}
theorem run_allocA (ho : o.op = .alloc 45) : (execOp ρ o).run Try.prog w = .ok (.value (.pointer (some ⟨w.heap.size, 0, none⟩))) (w.alloc (.cells z2 45)) := by
  unfold execOp
  simp only [ho]
  kernel_rfl
theorem run_allocB (ho : o.op = .alloc 59) : (execOp ρ o).run Try.prog w = .ok (.value (.pointer (some ⟨w.heap.size, 0, none⟩))) (w.alloc (.cells z2 59)) := by
  unfold execOp
  simp only [ho]
  kernel_rfl
theorem run_ixRq {a : Addr} {n c k : Nat} (ho : o.op = .indexAddr 30 x y) (hx : ρ x = .slice (some a) n c) (hy : ρ y = .int .i64 k) (hk : k < n) : (execOp ρ o).run Try.prog w = .ok (.value (.pointer (some (a.add (k * 10))))) w := by
  have h0 : (0 : Int) ≤ (k : Int) := by omega
  have h1 : (k : Int) < (n : Int) := by omega
  have h2 : ((k : Int)).toNat = k := by omega
  unfold execOp
  simp only [ho, hx, hy]
  go_simp
theorem run_maxD {m a b : Int} (hm : m = if a < b then b else a) (ho : o.op = .call { callee := .builtin .max, args := #[x, y], argTypes := #[3, 3] }) (hx : ρ x = .int .i64 a) (hy : ρ y = .int .i64 b) :
    (execOp ρ o).run Try.prog w = .ok (.value (.int .i64 m)) w := by
  subst hm
  unfold execOp
  simp only [ho]
  go_simp
theorem run_fldA {a : Addr} (ho : o.op = .fieldAddr 61 x 5) (hx : ρ x = .pointer (some a)) : (execOp ρ o).run Try.prog w = .ok (.value (.pointer (some (a.add 9)))) w := by
  unfold execOp
  simp only [ho, hx]
  go_simp
theorem run_addD {m n : Int} (hb : -9223372036854775808 ≤ m + n ∧ m + n ≤ 9223372036854775807) (ho : o.op = .binOp .add 3 x y 3) (hx : ρ x = .int .i64 m) (hy : ρ y = .int .i64 n) : (execOp ρ o).run Try.prog w = .ok (.value (.int .i64 (m + n))) w := by
  have h1 : IntKind.i64.wrap (m + n) = m + n := IntWalk.i64_in _ (by omega)
  unfold execOp
  simp only [ho, hx, hy]
  go_simp
theorem run_storeI {p : Addr} {n : Int} {u : Value} (ho : o.op = .store 3 x y) (hx : ρ x = .pointer (some p)) (hy : ρ y = .int .i64 n) (hc : w.cell? p = some u) (hf : w.frozen? p = false) :
    (execOp ρ o).run Try.prog w = .ok .skip (w.setCell p (.int .i64 n)) := by
  unfold execOp
  simp only [ho, hx, hy]
  go_simp
theorem run_ext {i : Nat} {vs : Array Value} {v : Value} (ho : o.op = .extract x i) (hx : ρ x = .tuple vs) (hv : vs[i]? = some v) : (execOp ρ o).run Try.prog w = .ok (.value v) w := by
  unfold execOp
  simp only [ho, hx]
  simp [Instr.extract, hv]
theorem run_cellRq {p : Addr} {q : Option Addr} {n c : Nat} (h : w.cell? p = some (.slice q n c)) : (loadVar 30 p).run Try.prog w = .ok (.slice q n c) w := by go_simp
end

def gX (k : Int) (q : Rq) : Int := if k = 0 then q 0 else q 2
def gY (k : Int) (q : Rq) : Int := if k = 0 then q 1 else q 3
def gE (k : Int) (q : Rq) : Int := if k = 0 then q 4 else q 6
def gL (k : Int) (q : Rq) : Int := if k = 0 then q 5 else q 7
/-- when the stop begins -/
def gB (k : Int) (q : Rq) (ax ay now : Int) : Int := mx (now + dsP ax ay (gX k q) (gY k q)) (gE k q)


end Go.Proofs.Ytpbmeeogledmdae
