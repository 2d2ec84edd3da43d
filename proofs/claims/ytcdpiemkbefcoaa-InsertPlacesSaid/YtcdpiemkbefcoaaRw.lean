/-
  Laws of rows of cells, and of single operations. Of no program.
-/
import Derived.Test.YtcdpiemkbefcoaaTell
import Derived.Test.YtcdpiemkbefcoaaBlk
import Derived.Laws.Rows
import Derived.Laws.CopyRow
import Derived.Laws.StructEq
import Derived.Outline
import Derived.Deep.QuietTactic
import Derived.BigQuiet
import Derived.IntWalk
import Derived.Deep.DeepCutAuto
import Derived.Deep.CutRange
import Derived.Deep.RegionWith
namespace Go.Proofs.Ytcdpiemkbefcoaa
open Go.RowKit

section
variable {P : Program}

theorem run_loadVar_at (w : World) (p : Addr) (ty : TypeId) (cs : List Value) (d : TypeDesc) (hc : ∀ j v, cs[j]? = some v → w.cell? (p.add j) = some v)
    (hu : P.underlying ty = some d) (hd : (match d with | .struct _ | .array _ _ => true | _ => false) = true) (hi : (P.info? ty).map (·.size) = some cs.length) :
    (loadVar ty p).run P w = .ok (.agg cs.toArray) w := by
  have hl : (loadCells p cs.length).run P w = .ok cs.toArray w := run_loadCells_list (P := P) w p cs hc
  cases hq : P.info? ty with
  | none => simp [hq] at hi
  | some i =>
    have hs : i.size = cs.length := by simpa [hq] using hi
    have hagg : (isAgg ty).run P w = .ok true w := by
      unfold isAgg
      rw [Sem.run_bind, run_underlying hu w]
      cases d <;> simp_all
    simp [loadVar, Sem.run_bind, hagg, sizeOf, typeInfo, hq, hs, hl]
theorem wpList_load_at {ops : Array Oper} {rest : List Oper} {o : Oper} {a : Act} {w : World} {Q : Exit → Act → World → Prop} (hgd : o.guard = none) (ty : TypeId) (x : Operand) (ho : o.op = .load ty x)
    (p : Addr) (hx : a.eval x = .pointer (some p)) (cs : List Value) (d : TypeDesc) (hc : ∀ j v, cs[j]? = some v → w.cell? (p.add j) = some v)
    (hu : P.underlying ty = some d) (hd : (match d with | .struct _ | .array _ _ => true | _ => false) = true) (hi : (P.info? ty).map (·.size) = some cs.length)
    (h : wpList P ops Q rest (a.put o.dst (.agg cs.toArray)) w) : wpList P ops Q (o :: rest) a w :=
  wpList_plain hgd fun _ hK => by
    unfold Oper.wp execOp
    simp only [ho, hx, Instr.loadAt, Instr.sureAddr, Sem.run_bind, Sem.run_pure, Result.andThen_ok, run_loadVar_at w p ty cs d hc hu hd hi]
    exact hK _ _ h
theorem run_storeVar_new (w : World) (ty : TypeId) (C cs : Array Value) (t : TypeId) (hs : C.size = cs.size) (h1 : ∀ v ∈ cs.toList, v.oneCell' = true) (hi : (P.info? ty).map (·.size) = some cs.size) :
    (storeVar ty ⟨w.heap.size, 0, none⟩ (.agg cs)).run P (w.alloc (.cells C t)) = .ok () (w.alloc (.cells cs t)) := by
  have hb : (w.alloc (.cells C t)).heap[w.heap.size]? = some (.cells C t (0, 0)) := World.alloc_heap_new w _
  have e := run_storeCells_at (P := P) w.heap.size 0 t cs.toList 0 C (w.alloc (.cells C t)) hb (by simp; omega) h1
  cases hq : P.info? ty with
  | none => simp [hq] at hi
  | some i =>
    have hs' : i.size = cs.size := by simpa [hq] using hi
    have e2 : (w.alloc (.cells C t)).setRow w.heap.size (C.toList.take (0 + 0) ++ cs.toList ++ C.toList.drop (0 + 0 + cs.toList.length)).toArray = w.alloc (.cells cs t) := by
      have : C.toList.drop (0 + 0 + cs.toList.length) = [] := List.drop_eq_nil_of_le (by simp; omega)
      rw [this]
      simp only [Nat.add_zero, List.take_zero, List.nil_append, List.append_nil, Array.toArray_toList]
      exact setRow_alloc w C cs t
    rw [e2] at e
    simp [storeVar, Sem.run_bind, sizeOf, typeInfo, hq, hs', Value.cells, e]
theorem wpList_store_new {ops : Array Oper} {rest : List Oper} {o : Oper} {a : Act} {w : World} {Q : Exit → Act → World → Prop} (hgd : o.guard = none) (ty : TypeId) (x y : Operand) (ho : o.op = .store ty x y) (hdst : o.dst = none)
    (hx : a.eval x = .pointer (some ⟨w.heap.size, 0, none⟩)) (C cs : Array Value) (t : TypeId) (hy : a.eval y = .agg cs) (hs : C.size = cs.size) (h1 : ∀ v ∈ cs.toList, v.oneCell' = true)
    (hi : (P.info? ty).map (·.size) = some cs.size)
    (h : wpList P ops Q rest a (w.alloc (.cells cs t))) : wpList P ops Q (o :: rest) a (w.alloc (.cells C t)) :=
  wpList_plain hgd fun K_ hK => by
    unfold Oper.wp execOp
    simp only [ho, hx, hy, Instr.storeAt, Instr.sureAddr, Sem.run_bind, Sem.run_pure, Result.andThen_ok, run_storeVar_new w ty C cs t hs h1 hi]
    show K_ (a.put o.dst undef) _
    rw [hdst]
    exact hK _ _ h
theorem run_storeVar_part (w : World) (g o : Nat) (ty : TypeId) (C cs : Array Value) (t : TypeId) (hB : Blk w g C t) (hs : o + cs.size ≤ C.size) (h1 : ∀ v ∈ cs.toList, v.oneCell' = true) (hi : (P.info? ty).map (·.size) = some cs.size) :
    (storeVar ty ⟨g, o, none⟩ (.agg cs)).run P w = .ok () (w.setRow g (C.toList.take o ++ cs.toList ++ C.toList.drop (o + cs.size)).toArray) := by
  have e := run_storeCells_at (P := P) g o t cs.toList 0 C w hB (by simp; omega) h1
  cases hq : P.info? ty with
  | none => simp [hq] at hi
  | some i =>
    have hs' : i.size = cs.size := by simpa [hq] using hi
    simp only [Nat.add_zero, Array.length_toList] at e
    simp [storeVar, Sem.run_bind, sizeOf, typeInfo, hq, hs', Value.cells, e]
theorem wpList_store_part {ops : Array Oper} {rest : List Oper} {o : Oper} {a : Act} {w : World} {Q : Exit → Act → World → Prop} (hgd : o.guard = none) (ty : TypeId) (x y : Operand) (ho : o.op = .store ty x y) (hdst : o.dst = none)
    (g n : Nat) (hx : a.eval x = .pointer (some ⟨g, n, none⟩)) (C cs : Array Value) (t : TypeId) (hB : Blk w g C t) (hy : a.eval y = .agg cs) (hs : n + cs.size ≤ C.size) (h1 : ∀ v ∈ cs.toList, v.oneCell' = true)
    (hi : (P.info? ty).map (·.size) = some cs.size)
    (h : ∀ w' C', Blk w' g C' t → Mod (· = g) w w' → C'.size = C.size → (∀ i : Nat, C'[i]? = if n ≤ i ∧ i < n + cs.size then cs[i - n]? else C[i]?) → wpList P ops Q rest a w') : wpList P ops Q (o :: rest) a w :=
  wpList_plain hgd fun K_ hK => by
    unfold Oper.wp execOp
    simp only [ho, hx, hy, Instr.storeAt, Instr.sureAddr, Sem.run_bind, Sem.run_pure, Result.andThen_ok, run_storeVar_part w g n ty C cs t hB hs h1 hi]
    show K_ (a.put o.dst undef) _
    rw [hdst]
    refine hK _ _ (h _ _ (setRow_heap w g C _ t (0, 0) hB) ⟨rfl, rfl, rfl, by simp [World.setRow], fun k _ hk => setRow_other w g k _ hk⟩ (by simp; omega) (fun i => ?_))
    simp only [List.getElem?_toArray, List.append_assoc]
    by_cases hin : n ≤ i ∧ i < n + cs.size
    · rw [if_pos hin, List.getElem?_append_right (by simp; omega), List.getElem?_append_left (by simp; omega)]
      simp only [List.length_take, Array.length_toList, Array.getElem?_toList]
      congr 1
      omega
    · rw [if_neg hin]
      by_cases hlo : i < n
      · rw [List.getElem?_append_left (by simp; omega), List.getElem?_take_of_lt hlo, Array.getElem?_toList]
      · rw [List.getElem?_append_right (by simp; omega), List.getElem?_append_right (by simp; omega), List.getElem?_drop]
        simp only [List.length_take, Array.length_toList, Array.getElem?_toList]
        congr 1
        omega
/-- an operation whose run is known -/
theorem wpList_v {ops : Array Oper} {rest : List Oper} {o : Oper} {a : Act} {w : World} {Q : Exit → Act → World → Prop} (hgd : Region.wanted o (yielded ops a.tmps) = true) (v : Value)
    (hrun : (execOp a.eval o).run P w = .ok (.value v) w) (h : wpList P ops Q rest (a.put o.dst v) w) : wpList P ops Q (o :: rest) a w :=
  wpList_step fun K hK => by
    rw [if_pos hgd]
    unfold Oper.wp
    rw [hrun]
    exact hK _ _ h
theorem wpList_load_v {ops : Array Oper} {rest : List Oper} {o : Oper} {a : Act} {w : World} {Q : Exit → Act → World → Prop} (hgd : Region.wanted o (yielded ops a.tmps) = true) (ty : TypeId) (x : Operand) (ho : o.op = .load ty x)
    (p : Addr) (hx : a.eval x = .pointer (some p)) (v : Value) (hrun : (loadVar ty p).run P w = .ok v w) (h : wpList P ops Q rest (a.put o.dst v) w) : wpList P ops Q (o :: rest) a w :=
  wpList_v hgd v (by unfold execOp; simp only [ho, hx, Instr.loadAt, Instr.sureAddr, Sem.run_bind, Sem.run_pure, Result.andThen_ok, hrun]) h
theorem wpList_build_v {ops : Array Oper} {rest : List Oper} {o : Oper} {a : Act} {w : World} {Q : Exit → Act → World → Prop} (hgd : Region.wanted o (yielded ops a.tmps) = true) (ty : TypeId) (ho : o.op = .build ty #[])
    (v : Value) (hrun : (Instr.build ty #[]).run P w = .ok v w) (h : wpList P ops Q rest (a.put o.dst v) w) : wpList P ops Q (o :: rest) a w :=
  wpList_v hgd v (by unfold execOp; simp only [ho, List.map_toArray, List.map_nil, Sem.run_bind, hrun, Sem.run_pure, Result.andThen_ok]) h
theorem wpList_eql_v {ops : Array Oper} {rest : List Oper} {o : Oper} {a : Act} {w : World} {Q : Exit → Act → World → Prop} (hgd : Region.wanted o (yielded ops a.tmps) = true) (bop : BinOp) (ty ty2 : TypeId) (x y : Operand) (ho : o.op = .binOp bop ty x y ty2)
    (X Y : Array Value) (hx : a.eval x = .agg X) (hy : a.eval y = .agg Y) (hG : (eqGuard bop ty x y (.agg X) (.agg Y)).run P w = .ok () w) (v : Value) (hrun : (binOp bop ty (.agg X) (.agg Y)).run P w = .ok v w)
    (h : wpList P ops Q rest (a.put o.dst v) w) : wpList P ops Q (o :: rest) a w :=
  wpList_v hgd v (by unfold execOp; simp only [ho, hx, hy, Sem.run_bind, hG, hrun, Sem.run_pure, Result.andThen_ok]) h
end
/-- one cell that is not of a part -/
theorem set_ne {C : Array Value} {i j : Nat} {v : Value} (h : i ≠ j) : (C.setIfInBounds i v)[j]? = C[j]? := Array.getElem?_setIfInBounds_ne h
theorem set_eq {C : Array Value} {i : Nat} {v : Value} (h : i < C.size) : (C.setIfInBounds i v)[i]? = some v := by
  rw [Array.getElem?_setIfInBounds]; simp [h]
theorem below_drewN {B : Nat} {a w : World} (h : Below B a w) (n : Nat) : Below B a (w.drewN n) := ⟨h.os, h.tape, h.output, h.size, h.block⟩
theorem wp_world {P : Program} {c : Code} {Q : Exit → Act → World → Prop} {a : Act} {W : World} (R : World → Prop) (h : R W) (k : ∀ wx, R wx → c.wp P Q a wx) : c.wp P Q a W := k W h
theorem load_part {P : Program} (wx : World) (B : Nat) (D : Array Value) (t : TypeId) (hB : Blk wx B D t) (o n : Nat) (ho : o + n ≤ D.size) (ty : TypeId) (d : TypeDesc)
    (hu : P.underlying ty = some d) (hd : (match d with | .struct _ | .array _ _ => true | _ => false) = true) (hi : (P.info? ty).map (·.size) = some n) :
    (loadVar ty ⟨B, o, none⟩).run P wx = .ok (.agg (D.extract o (o + n))) wx := by
  have h := run_loadVar_at (P := P) wx ⟨B, o, none⟩ ty (D.extract o (o + n)).toList d (fun j v hj => by
    have hlt : j < n := by
      have := (List.getElem?_eq_some_iff.1 hj).1
      simp at this
      omega
    have e : (⟨B, o, none⟩ : Addr).add j = ⟨B, o + j, none⟩ := by unfold Addr.add; split <;> simp_all
    rw [e]
    refine hB.cell ?_
    rw [Array.getElem?_toList, Array.getElem?_extract_of_lt (by omega)] at hj
    rw [← hj]
    exact Array.getElem?_eq_getElem _) hu hd (by rw [hi]; simp; omega)
  rw [Array.toArray_toList] at h
  exact h
theorem ext_row {D X : Array Value} {o n : Nat} (ho : o + n ≤ D.size) (hX : X.size = n) (h : ∀ i, i < n → D[o + i]? = X[i]?) : D.extract o (o + n) = X := by
  apply Array.ext_getElem?
  intro i
  by_cases hi : i < n
  · rw [Array.getElem?_extract_of_lt (by omega), ← h i hi]
    exact (Array.getElem?_eq_getElem _).symm
  · rw [Array.getElem?_eq_none (by simp; omega), Array.getElem?_eq_none (by omega)]
/-- an operation of a quiet region whose run is known -/
theorem wpQuiet_v {P : Program} {ops : Array Oper} {C : World → Prop} {Q : Act → Prop} {rest : List Oper} {o : Oper} {a : Act} (hgd : Region.wanted o (yielded ops a.tmps) = true) (v : Value)
    (hrun : ∀ w, C w → (execOp a.eval o).run P w = .ok (.value v) w) (h : wpQuiet P ops C Q rest (a.put o.dst v)) : wpQuiet P ops C Q (o :: rest) a := by
  unfold wpQuiet
  rw [if_pos hgd]
  exact ⟨v, fun w hw => by unfold Oper.quietAt; rw [hrun w hw]; exact ⟨rfl, rfl⟩, h⟩
theorem run_load_v {P : Program} {ρ : Operand → Value} {o : Oper} {w : World} {ty : TypeId} {x : Operand} (ho : o.op = .load ty x) {p : Addr} (hx : ρ x = .pointer (some p)) {v : Value} (hrun : (loadVar ty p).run P w = .ok v w) :
    (execOp ρ o).run P w = .ok (.value v) w := by
  unfold execOp; simp only [ho, hx, Instr.loadAt, Instr.sureAddr, Sem.run_bind, Sem.run_pure, Result.andThen_ok, hrun]
theorem run_bin_v {P : Program} {ρ : Operand → Value} {o : Oper} {w : World} {bop : BinOp} {ty ty2 : TypeId} {x y : Operand} (ho : o.op = .binOp bop ty x y ty2) {X Y : Array Value} (hx : ρ x = .agg X) (hy : ρ y = .agg Y)
    (hm : P.eqGuardType P.depth ty = false) {v : Value} (hrun : (binOp bop ty (.agg X) (.agg Y)).run P w = .ok v w) : (execOp ρ o).run P w = .ok (.value v) w := by
  unfold execOp; simp only [ho, hx, hy, Sem.run_bind, run_eqGuard_agg w bop ty x y X Y hm, hrun, Sem.run_pure, Result.andThen_ok]
section
variable {P : Program}
theorem run_storeVar_row (w : World) (g : Nat) (ty : TypeId) (C cs : Array Value) (t : TypeId) (hB : Blk w g C t) (hs : C.size = cs.size) (h1 : ∀ v ∈ cs.toList, v.oneCell' = true) (hi : (P.info? ty).map (·.size) = some cs.size) :
    (storeVar ty ⟨g, 0, none⟩ (.agg cs)).run P w = .ok () (w.setRow g cs) := by
  have e := run_storeCells_at (P := P) g 0 t cs.toList 0 C w hB (by simp; omega) h1
  cases hq : P.info? ty with
  | none => simp [hq] at hi
  | some i =>
    have hs' : i.size = cs.size := by simpa [hq] using hi
    have e2 : w.setRow g (C.toList.take (0 + 0) ++ cs.toList ++ C.toList.drop (0 + 0 + cs.toList.length)).toArray = w.setRow g cs := by
      have : C.toList.drop (0 + 0 + cs.toList.length) = [] := List.drop_eq_nil_of_le (by simp; omega)
      rw [this]
      simp only [Nat.add_zero, List.take_zero, List.nil_append, List.append_nil, Array.toArray_toList]
    rw [e2] at e
    simp [storeVar, Sem.run_bind, sizeOf, typeInfo, hq, hs', Value.cells, e]
/-- a struct stored into its own variable: the variable's row is the struct -/
theorem wpList_store_row {ops : Array Oper} {rest : List Oper} {o : Oper} {a : Act} {w : World} {Q : Exit → Act → World → Prop} (hgd : o.guard = none) (ty : TypeId) (x y : Operand) (ho : o.op = .store ty x y) (hdst : o.dst = none)
    (g : Nat) (hx : a.eval x = .pointer (some ⟨g, 0, none⟩)) (C cs : Array Value) (t : TypeId) (hB : Blk w g C t) (hy : a.eval y = .agg cs) (hs : C.size = cs.size) (h1 : ∀ v ∈ cs.toList, v.oneCell' = true)
    (hi : (P.info? ty).map (·.size) = some cs.size)
    (h : ∀ w', Blk w' g cs t → Mod (· = g) w w' → wpList P ops Q rest a w') : wpList P ops Q (o :: rest) a w :=
  wpList_plain hgd fun K_ hK => by
    unfold Oper.wp execOp
    simp only [ho, hx, hy, Instr.storeAt, Instr.sureAddr, Sem.run_bind, Sem.run_pure, Result.andThen_ok, run_storeVar_row w g ty C cs t hB hs h1 hi]
    show K_ (a.put o.dst undef) _
    rw [hdst]
    exact hK _ _ (h _ (setRow_heap w g C cs t (0, 0) hB) ⟨rfl, rfl, rfl, by simp [World.setRow], fun k _ hk => setRow_other w g k cs hk⟩)
theorem run_storeVar_row2 (w : World) (g : Nat) (ty : TypeId) (C cs : Array Value) (t : TypeId) (hB : Blk w g C t) (hs : C.size = cs.size) (h1 : ∀ v ∈ cs.toList, v.oneCell' = true) (hi : (P.info? ty).map (·.size) = some cs.size) :
    (storeVar ty ⟨g, 0, none⟩ (.agg cs)).run P w = .ok () (w.setRow g cs) := by
  rw [run_storeVar_part (P := P) w g 0 ty C cs t hB (by omega) h1 hi]
  have : C.toList.drop (0 + cs.size) = [] := List.drop_eq_nil_of_le (by simp; omega)
  rw [this]
  simp
theorem wpList_store_row2 {ops : Array Oper} {rest : List Oper} {o : Oper} {a : Act} {w : World} {Q : Exit → Act → World → Prop} (hgd : o.guard = none) (ty : TypeId) (x y : Operand) (ho : o.op = .store ty x y) (hdst : o.dst = none)
    (g : Nat) (hx : a.eval x = .pointer (some ⟨g, 0, none⟩)) (C cs : Array Value) (t : TypeId) (hB : Blk w g C t) (hy : a.eval y = .agg cs) (hs : C.size = cs.size) (h1 : ∀ v ∈ cs.toList, v.oneCell' = true)
    (hi : (P.info? ty).map (·.size) = some cs.size)
    (h : ∀ w', Blk w' g cs t → Mod (· = g) w w' → wpList P ops Q rest a w') : wpList P ops Q (o :: rest) a w :=
  wpList_plain hgd fun K_ hK => by
    unfold Oper.wp execOp
    simp only [ho, hx, hy, Instr.storeAt, Instr.sureAddr, Sem.run_bind, Sem.run_pure, Result.andThen_ok, run_storeVar_row2 w g ty C cs t hB hs h1 hi]
    show K_ (a.put o.dst undef) _
    rw [hdst]
    exact hK _ _ (h _ (setRow_heap w g C cs t (0, 0) hB) ⟨rfl, rfl, rfl, by simp [World.setRow], fun k _ hk => setRow_other w g k cs hk⟩)
end
theorem results_cell_tmp {P : Program} {fn : Func} {p q : Tmp} {ty : TypeId} (h : fn.results = #[.cell p ty, .tmp q]) (tmps : Array Value) (w : World) (g : Nat) (t : TypeId) (cs : Array Value) (fr : Nat × Nat) (d : TypeDesc)
    (hp : tmps.getD p undef = .pointer (some ⟨g, 0, none⟩)) (hg : w.heap[g]? = some (.cells cs t fr))
    (hu : P.underlying ty = some d) (hd : (match d with | .struct _ | .array _ _ => true | _ => false) = true) (hi : (P.info? ty).map (·.size) = some cs.size) :
    (results fn tmps).run P w = .ok (.tuple #[.agg cs, tmps.getD q undef]) w := by
  have hp' : tmps[p]?.getD undef = .pointer (some ⟨g, 0, none⟩) := by simpa using hp
  simp [results, h, hp', asAddr, run_loadVar_row w g t ty cs fr d hg hu hd hi]
theorem wpList_build1_v {P : Program} {ops : Array Oper} {rest : List Oper} {o : Oper} {a : Act} {w : World} {Q : Exit → Act → World → Prop} (hgd : Region.wanted o (yielded ops a.tmps) = true) (ty : TypeId) (i : Nat) (x : Operand) (ho : o.op = .build ty #[(i, x)])
    (v1 : Value) (hx : a.eval x = v1) (v : Value) (hrun : (Instr.build ty #[(i, v1)]).run P w = .ok v w) (h : wpList P ops Q rest (a.put o.dst v) w) : wpList P ops Q (o :: rest) a w :=
  wpList_v hgd v (by unfold execOp; simp only [ho, hx, List.map_toArray, List.map_cons, List.map_nil, Sem.run_bind, hrun, Sem.run_pure, Result.andThen_ok]) h
theorem wp_world' {P : Program} {c : Code} {Q : Exit → Act → World → Prop} {a : Act} {W : World} (R : World → Prop) (h : R W) (k : ∀ wx, R wx → c.wp P Q a wx) : c.wp P Q a W := k W h
theorem blk_new3 (w : World) (a b : Obj) (C : Array Value) (t : TypeId) : Blk (((w.alloc a).alloc b).alloc (.cells C t)) (w.heap.size + 2) C t := by
  have h := Blk.new ((w.alloc a).alloc b) C t
  simpa using h
theorem run_load_row' {P : Program} (w : World) (g : Nat) (ty : TypeId) (C : Array Value) (t : TypeId) (d : TypeDesc) (hB : Blk w g C t) (hu : P.underlying ty = some d) (hd : (match d with | .struct _ | .array _ _ => true | _ => false) = true)
    (hi : (P.info? ty).map (·.size) = some C.size) : (loadVar ty ⟨g, 0, none⟩).run P w = .ok (.agg C) w := run_loadVar_row w g t ty C (0, 0) d hB hu hd hi
theorem sv {P : Program} {C : World → Prop} {v : Value} {r : Result Next} {w : World} (h : r = .ok (.value v) w) (hC : C w) : stageUpon P C v r := by rw [h]; exact ⟨rfl, hC⟩
theorem ss {P : Program} {C : World → Prop} {r : Result Next} {w : World} (h : r = .ok .skip w) (hC : C w) : stageUpon P C undef r := by rw [h]; exact ⟨rfl, hC⟩
theorem sc {P : Program} {C : World → Prop} {v : Value} {r : Result Next} {w : World} {f : FuncId} {args : Array Value} (h : r = .ok (.enter f args) w) (hC : Calls P f args w fun e w' => e = .returned v ∧ C w') : stageUpon P C v r := by rw [h]; exact hC
theorem run_load_row {P : Program} (w : World) (g : Nat) (ty : TypeId) (C : Array Value) (t : TypeId) (d : TypeDesc) (hB : Blk w g C t) (hu : P.underlying ty = some d) (hd : (match d with | .struct _ | .array _ _ => true | _ => false) = true)
    (hi : (P.info? ty).map (·.size) = some C.size) : (loadVar ty ⟨g, 0, none⟩).run P w = .ok (.agg C) w := run_loadVar_row w g t ty C (0, 0) d hB hu hd hi
theorem wpList_buildn_v {P : Program} {ops : Array Oper} {rest : List Oper} {o : Oper} {a : Act} {w : World} {Q : Exit → Act → World → Prop} (hgd : Region.wanted o (yielded ops a.tmps) = true) (ty : TypeId) (parts : Array (Nat × Operand)) (ho : o.op = .build ty parts)
    (vs : Array (Nat × Value)) (hp : (parts.map fun (i, x) => (i, a.eval x)) = vs) (v : Value) (hrun : (Instr.build ty vs).run P w = .ok v w) (h : wpList P ops Q rest (a.put o.dst v) w) : wpList P ops Q (o :: rest) a w :=
  wpList_v hgd v (by unfold execOp; simp only [ho, hp, Sem.run_bind, hrun, Sem.run_pure, Result.andThen_ok]) h
theorem new_below (w : World) (o : Obj) : Below w.heap.size w (w.alloc o) := (Below.refl _ _).alloc (Nat.le_refl _) o
theorem wpList_cvt {P : Program} {ops : Array Oper} {rest : List Oper} {o : Oper} {a : Act} {w w' : World} {Q : Exit → Act → World → Prop} (hgd : Region.wanted o (yielded ops a.tmps) = true) (s t : TypeId) (x : Operand) (ho : o.op = .convert s t x)
    (v : Value) (hx : a.eval x = v) (u : Value) (hrun : (convert s t v).run P w = .ok u w') (h : wpList P ops Q rest (a.put o.dst u) w') : wpList P ops Q (o :: rest) a w :=
  wpList_step fun K hK => by
    rw [if_pos hgd]
    unfold Oper.wp execOp
    simp only [ho, hx, Sem.run_bind, hrun, Result.andThen_ok, Sem.run_pure]
    exact hK _ _ h
theorem sk {R : Value → World → Prop} {f : FuncId} {args : Array Value} {P : Program} {r : Result Next} {w : World} (h : r = .ok (.enter f args) w) (hC : Calls P f args w fun e w'' => ∃ v, e = .returned v ∧ R v w'') : upon2 P R r := by rw [h]; exact hC
section
variable {ρ : Operand → Value} {o : Oper} {w : World} {x y : Operand}
theorem run_mov {v : Value} (ho : o.op = .move x) (hx : ρ x = v) : (execOp ρ o).run Try.prog w = .ok (.value v) w := by
  unfold execOp; simp only [ho, hx, Sem.run_pure]
theorem run_asg {v : Value} (ho : o.op = .assign x) (hx : ρ x = v) : (execOp ρ o).run Try.prog w = .ok (.value v) w := by
  unfold execOp; simp only [ho, hx, Sem.run_pure]
theorem run_fldT {b off off2 f : Nat} {ty : TypeId} (ho : o.op = .fieldAddr ty x f) (hx : ρ x = .pointer (some ⟨b, off, none⟩)) (hf : ∀ w, (Instr.fieldAt ty (.pointer (some ⟨b, off, none⟩)) f).run Try.prog w = .ok (.pointer (some ⟨b, off2, none⟩)) w) :
    (execOp ρ o).run Try.prog w = .ok (.value (.pointer (some ⟨b, off2, none⟩))) w := by
  unfold execOp; simp only [ho, hx, Sem.run_bind, hf, Result.andThen_ok, Sem.run_pure]
theorem run_cvt {v u : Value} {s t : TypeId} (ho : o.op = .convert s t x) (hx : ρ x = v) (h : (convert s t v).run Try.prog w = .ok u w) : (execOp ρ o).run Try.prog w = .ok (.value u) w := by
  unfold execOp
  simp only [ho, hx, Sem.run_bind, h, Result.andThen_ok, Sem.run_pure]
end
theorem run_load1 {ρ : Operand → Value} {o : Oper} {w : World} {x : Operand} {p : Addr} {v : Value} {ty : TypeId} (ho : o.op = .load ty x) (hx : ρ x = .pointer (some p)) (hrun : (loadVar ty p).run Try.prog w = .ok v w) :
    (execOp ρ o).run Try.prog w = .ok (.value v) w := by
  unfold execOp; simp only [ho, hx, Instr.loadAt, Instr.sureAddr, Sem.run_bind, Sem.run_pure, Result.andThen_ok, hrun]
theorem run_storeP {ρ : Operand → Value} {o : Oper} {w w' : World} {x y : Operand} {p : Addr} {cs : Array Value} {ty : TypeId} (ho : o.op = .store ty x y) (hx : ρ x = .pointer (some p)) (hy : ρ y = .agg cs) (hrun : (storeVar ty p (.agg cs)).run Try.prog w = .ok () w') :
    (execOp ρ o).run Try.prog w = .ok .skip w' := by
  unfold execOp
  simp only [ho, hx, hy, Instr.storeAt, Instr.sureAddr, Sem.run_bind, Sem.run_pure, Result.andThen_ok, hrun]
theorem run_i64 {w : World} {p : Addr} {n : Int} (hc : w.cell? p = some (.int .i64 n)) : (loadVar 3 p).run Try.prog w = .ok (.int .i64 n) w := by go_simp
theorem ba_beq (a b : ByteArray) : (a == b) = decide (a = b) := by
  cases a with | mk x => cases b with | mk y =>
  have h : (({ data := x } : ByteArray) == { data := y }) = (x == y) := by
    show ByteArray.beq _ _ = _
    simp only [ByteArray.beq]
  rw [h, Bool.eq_iff_iff]
  simp
theorem wpList_ix {P : Program} {ops : Array Oper} {rest : List Oper} {o : Oper} {a : Act} {w : World} {Q : Exit → Act → World → Prop} (hgd : Region.wanted o (yielded ops a.tmps) = true) (ty : TypeId) (x y : Operand) (ho : o.op = .index ty x y)
    (v1 v2 : Value) (hx : a.eval x = v1) (hy : a.eval y = v2) (v : Value) (hrun : (Instr.index ty v1 v2).run P w = .ok v w) (h : wpList P ops Q rest (a.put o.dst v) w) : wpList P ops Q (o :: rest) a w :=
  wpList_v hgd v (by unfold execOp; simp only [ho, hx, hy, Sem.run_bind, hrun, Sem.run_pure, Result.andThen_ok]) h
end Go.Proofs.Ytcdpiemkbefcoaa
