/-
  Laws of rows of cells, and of single operations. Of no program.
  A map from integers to pairs of integers, that a call makes: its look-up, its store, its range. Of no program.
  Rows of structs that lie in a world; what is a route.
  Rows that a call makes: append. Of no program.
  append of rows that lie there; onto a row that has no room. Of no program.
-/
import Derived.Test.YtpbmeeogledmdaeTell
import Derived.Test.YtpbmeeogledmdaeBlk
import Derived.Laws.Rows
import Derived.Laws.CopyRow
import Derived.Laws.StructEq
import Derived.Outline
import Derived.Deep.QuietTactic
import Derived.BigQuiet
import Derived.IntWalk
import Derived.Deep.DeepCutAuto
import Derived.Deep.CutRange
import Derived.Deep.RegionWith
import Derived.Maps.RangeRun
import Derived.Laws.AppendOwn
import Derived.ArgAppend
namespace Go.Proofs.Ytpbmeeogledmdae
open Go.RowKit

section
variable {P : Program}

theorem run_loadVar_at (w : World) (p : Addr) (ty : TypeId) (cs : List Value) (d : TypeDesc) (hc : ∀ j v, cs[j]? = some v → w.cell? (p.add j) = some v)
    (hu : P.underlying ty = some d) (hd : (match d with | .struct _ | .array _ _ => true | _ => false) = true) (hi : (P.info? ty).map (·.size) = some cs.length) :
    (loadVar ty p).run P w = .ok (.agg cs.toArray) w := by
  have hl : (loadCells p cs.length).run P w = .ok cs.toArray w := run_loadCells_list (P := P) w p cs hc
  cases hq : P.info? ty with
  | none => simp [hq] at hi
  | some i =>
    have hs : i.size = cs.length := by simpa [hq] using hi
    have hagg : (isAgg ty).run P w = .ok true w := by
      unfold isAgg
      rw [Sem.run_bind, run_underlying hu w]
      cases d <;> simp_all
    simp [loadVar, Sem.run_bind, hagg, sizeOf, typeInfo, hq, hs, hl]
theorem wpList_load_at {ops : Array Oper} {rest : List Oper} {o : Oper} {a : Act} {w : World} {Q : Exit → Act → World → Prop} (hgd : o.guard = none) (ty : TypeId) (x : Operand) (ho : o.op = .load ty x)
    (p : Addr) (hx : a.eval x = .pointer (some p)) (cs : List Value) (d : TypeDesc) (hc : ∀ j v, cs[j]? = some v → w.cell? (p.add j) = some v)
    (hu : P.underlying ty = some d) (hd : (match d with | .struct _ | .array _ _ => true | _ => false) = true) (hi : (P.info? ty).map (·.size) = some cs.length)
    (h : wpList P ops Q rest (a.put o.dst (.agg cs.toArray)) w) : wpList P ops Q (o :: rest) a w :=
  wpList_plain hgd fun _ hK => by
    unfold Oper.wp execOp
    simp only [ho, hx, Instr.loadAt, Instr.sureAddr, Sem.run_bind, Sem.run_pure, Result.andThen_ok, run_loadVar_at w p ty cs d hc hu hd hi]
    exact hK _ _ h
theorem run_storeVar_new (w : World) (ty : TypeId) (C cs : Array Value) (t : TypeId) (hs : C.size = cs.size) (h1 : ∀ v ∈ cs.toList, v.oneCell' = true) (hi : (P.info? ty).map (·.size) = some cs.size) :
    (storeVar ty ⟨w.heap.size, 0, none⟩ (.agg cs)).run P (w.alloc (.cells C t)) = .ok () (w.alloc (.cells cs t)) := by
  have hb : (w.alloc (.cells C t)).heap[w.heap.size]? = some (.cells C t (0, 0)) := World.alloc_heap_new w _
  have e := run_storeCells_at (P := P) w.heap.size 0 t cs.toList 0 C (w.alloc (.cells C t)) hb (by simp; omega) h1
  cases hq : P.info? ty with
  | none => simp [hq] at hi
  | some i =>
    have hs' : i.size = cs.size := by simpa [hq] using hi
    have e2 : (w.alloc (.cells C t)).setRow w.heap.size (C.toList.take (0 + 0) ++ cs.toList ++ C.toList.drop (0 + 0 + cs.toList.length)).toArray = w.alloc (.cells cs t) := by
      have : C.toList.drop (0 + 0 + cs.toList.length) = [] := List.drop_eq_nil_of_le (by simp; omega)
      rw [this]
      simp only [Nat.add_zero, List.take_zero, List.nil_append, List.append_nil, Array.toArray_toList]
      exact setRow_alloc w C cs t
    rw [e2] at e
    simp [storeVar, Sem.run_bind, sizeOf, typeInfo, hq, hs', Value.cells, e]
theorem wpList_store_new {ops : Array Oper} {rest : List Oper} {o : Oper} {a : Act} {w : World} {Q : Exit → Act → World → Prop} (hgd : o.guard = none) (ty : TypeId) (x y : Operand) (ho : o.op = .store ty x y) (hdst : o.dst = none)
    (hx : a.eval x = .pointer (some ⟨w.heap.size, 0, none⟩)) (C cs : Array Value) (t : TypeId) (hy : a.eval y = .agg cs) (hs : C.size = cs.size) (h1 : ∀ v ∈ cs.toList, v.oneCell' = true)
    (hi : (P.info? ty).map (·.size) = some cs.size)
    (h : wpList P ops Q rest a (w.alloc (.cells cs t))) : wpList P ops Q (o :: rest) a (w.alloc (.cells C t)) :=
  wpList_plain hgd fun K_ hK => by
    unfold Oper.wp execOp
    simp only [ho, hx, hy, Instr.storeAt, Instr.sureAddr, Sem.run_bind, Sem.run_pure, Result.andThen_ok, run_storeVar_new w ty C cs t hs h1 hi]
    show K_ (a.put o.dst undef) _
    rw [hdst]
    exact hK _ _ h
theorem run_storeVar_part (w : World) (g o : Nat) (ty : TypeId) (C cs : Array Value) (t : TypeId) (hB : Blk w g C t) (hs : o + cs.size ≤ C.size) (h1 : ∀ v ∈ cs.toList, v.oneCell' = true) (hi : (P.info? ty).map (·.size) = some cs.size) :
    (storeVar ty ⟨g, o, none⟩ (.agg cs)).run P w = .ok () (w.setRow g (C.toList.take o ++ cs.toList ++ C.toList.drop (o + cs.size)).toArray) := by
  have e := run_storeCells_at (P := P) g o t cs.toList 0 C w hB (by simp; omega) h1
  cases hq : P.info? ty with
  | none => simp [hq] at hi
  | some i =>
    have hs' : i.size = cs.size := by simpa [hq] using hi
    simp only [Nat.add_zero, Array.length_toList] at e
    simp [storeVar, Sem.run_bind, sizeOf, typeInfo, hq, hs', Value.cells, e]
theorem wpList_store_part {ops : Array Oper} {rest : List Oper} {o : Oper} {a : Act} {w : World} {Q : Exit → Act → World → Prop} (hgd : o.guard = none) (ty : TypeId) (x y : Operand) (ho : o.op = .store ty x y) (hdst : o.dst = none)
    (g n : Nat) (hx : a.eval x = .pointer (some ⟨g, n, none⟩)) (C cs : Array Value) (t : TypeId) (hB : Blk w g C t) (hy : a.eval y = .agg cs) (hs : n + cs.size ≤ C.size) (h1 : ∀ v ∈ cs.toList, v.oneCell' = true)
    (hi : (P.info? ty).map (·.size) = some cs.size)
    (h : ∀ w' C', Blk w' g C' t → Mod (· = g) w w' → C'.size = C.size → (∀ i : Nat, C'[i]? = if n ≤ i ∧ i < n + cs.size then cs[i - n]? else C[i]?) → wpList P ops Q rest a w') : wpList P ops Q (o :: rest) a w :=
  wpList_plain hgd fun K_ hK => by
    unfold Oper.wp execOp
    simp only [ho, hx, hy, Instr.storeAt, Instr.sureAddr, Sem.run_bind, Sem.run_pure, Result.andThen_ok, run_storeVar_part w g n ty C cs t hB hs h1 hi]
    show K_ (a.put o.dst undef) _
    rw [hdst]
    refine hK _ _ (h _ _ (setRow_heap w g C _ t (0, 0) hB) ⟨rfl, rfl, rfl, by simp [World.setRow], fun k _ hk => setRow_other w g k _ hk⟩ (by simp; omega) (fun i => ?_))
    simp only [List.getElem?_toArray, List.append_assoc]
    by_cases hin : n ≤ i ∧ i < n + cs.size
    · rw [if_pos hin, List.getElem?_append_right (by simp; omega), List.getElem?_append_left (by simp; omega)]
      simp only [List.length_take, Array.length_toList, Array.getElem?_toList]
      congr 1
      omega
    · rw [if_neg hin]
      by_cases hlo : i < n
      · rw [List.getElem?_append_left (by simp; omega), List.getElem?_take_of_lt hlo, Array.getElem?_toList]
      · rw [List.getElem?_append_right (by simp; omega), List.getElem?_append_right (by simp; omega), List.getElem?_drop]
        simp only [List.length_take, Array.length_toList, Array.getElem?_toList]
        congr 1
        omega
/-- an operation whose run is known -/
theorem wpList_v {ops : Array Oper} {rest : List Oper} {o : Oper} {a : Act} {w : World} {Q : Exit → Act → World → Prop} (hgd : Region.wanted o (yielded ops a.tmps) = true) (v : Value)
    (hrun : (execOp a.eval o).run P w = .ok (.value v) w) (h : wpList P ops Q rest (a.put o.dst v) w) : wpList P ops Q (o :: rest) a w :=
  wpList_step fun K hK => by
    rw [if_pos hgd]
    unfold Oper.wp
    rw [hrun]
    exact hK _ _ h
theorem wpList_load_v {ops : Array Oper} {rest : List Oper} {o : Oper} {a : Act} {w : World} {Q : Exit → Act → World → Prop} (hgd : Region.wanted o (yielded ops a.tmps) = true) (ty : TypeId) (x : Operand) (ho : o.op = .load ty x)
    (p : Addr) (hx : a.eval x = .pointer (some p)) (v : Value) (hrun : (loadVar ty p).run P w = .ok v w) (h : wpList P ops Q rest (a.put o.dst v) w) : wpList P ops Q (o :: rest) a w :=
  wpList_v hgd v (by unfold execOp; simp only [ho, hx, Instr.loadAt, Instr.sureAddr, Sem.run_bind, Sem.run_pure, Result.andThen_ok, hrun]) h
theorem wpList_build_v {ops : Array Oper} {rest : List Oper} {o : Oper} {a : Act} {w : World} {Q : Exit → Act → World → Prop} (hgd : Region.wanted o (yielded ops a.tmps) = true) (ty : TypeId) (ho : o.op = .build ty #[])
    (v : Value) (hrun : (Instr.build ty #[]).run P w = .ok v w) (h : wpList P ops Q rest (a.put o.dst v) w) : wpList P ops Q (o :: rest) a w :=
  wpList_v hgd v (by unfold execOp; simp only [ho, List.map_toArray, List.map_nil, Sem.run_bind, hrun, Sem.run_pure, Result.andThen_ok]) h
theorem wpList_eql_v {ops : Array Oper} {rest : List Oper} {o : Oper} {a : Act} {w : World} {Q : Exit → Act → World → Prop} (hgd : Region.wanted o (yielded ops a.tmps) = true) (bop : BinOp) (ty ty2 : TypeId) (x y : Operand) (ho : o.op = .binOp bop ty x y ty2)
    (X Y : Array Value) (hx : a.eval x = .agg X) (hy : a.eval y = .agg Y) (hG : (eqGuard bop ty x y (.agg X) (.agg Y)).run P w = .ok () w) (v : Value) (hrun : (binOp bop ty (.agg X) (.agg Y)).run P w = .ok v w)
    (h : wpList P ops Q rest (a.put o.dst v) w) : wpList P ops Q (o :: rest) a w :=
  wpList_v hgd v (by unfold execOp; simp only [ho, hx, hy, Sem.run_bind, hG, hrun, Sem.run_pure, Result.andThen_ok]) h
end
/-- one cell that is not of a part -/
theorem set_ne {C : Array Value} {i j : Nat} {v : Value} (h : i ≠ j) : (C.setIfInBounds i v)[j]? = C[j]? := Array.getElem?_setIfInBounds_ne h
theorem set_eq {C : Array Value} {i : Nat} {v : Value} (h : i < C.size) : (C.setIfInBounds i v)[i]? = some v := by
  rw [Array.getElem?_setIfInBounds]; simp [h]
theorem below_drewN {B : Nat} {a w : World} (h : Below B a w) (n : Nat) : Below B a (w.drewN n) := ⟨h.os, h.tape, h.output, h.size, h.block⟩
theorem wp_world {P : Program} {c : Code} {Q : Exit → Act → World → Prop} {a : Act} {W : World} (R : World → Prop) (h : R W) (k : ∀ wx, R wx → c.wp P Q a wx) : c.wp P Q a W := k W h
theorem load_part {P : Program} (wx : World) (B : Nat) (D : Array Value) (t : TypeId) (hB : Blk wx B D t) (o n : Nat) (ho : o + n ≤ D.size) (ty : TypeId) (d : TypeDesc)
    (hu : P.underlying ty = some d) (hd : (match d with | .struct _ | .array _ _ => true | _ => false) = true) (hi : (P.info? ty).map (·.size) = some n) :
    (loadVar ty ⟨B, o, none⟩).run P wx = .ok (.agg (D.extract o (o + n))) wx := by
  have h := run_loadVar_at (P := P) wx ⟨B, o, none⟩ ty (D.extract o (o + n)).toList d (fun j v hj => by
    have hlt : j < n := by
      have := (List.getElem?_eq_some_iff.1 hj).1
      simp at this
      omega
    have e : (⟨B, o, none⟩ : Addr).add j = ⟨B, o + j, none⟩ := by unfold Addr.add; split <;> simp_all
    rw [e]
    refine hB.cell ?_
    rw [Array.getElem?_toList, Array.getElem?_extract_of_lt (by omega)] at hj
    rw [← hj]
    exact Array.getElem?_eq_getElem _) hu hd (by rw [hi]; simp; omega)
  rw [Array.toArray_toList] at h
  exact h
theorem ext_row {D X : Array Value} {o n : Nat} (ho : o + n ≤ D.size) (hX : X.size = n) (h : ∀ i, i < n → D[o + i]? = X[i]?) : D.extract o (o + n) = X := by
  apply Array.ext_getElem?
  intro i
  by_cases hi : i < n
  · rw [Array.getElem?_extract_of_lt (by omega), ← h i hi]
    exact (Array.getElem?_eq_getElem _).symm
  · rw [Array.getElem?_eq_none (by simp; omega), Array.getElem?_eq_none (by omega)]
/-- an operation of a quiet region whose run is known -/
theorem wpQuiet_v {P : Program} {ops : Array Oper} {C : World → Prop} {Q : Act → Prop} {rest : List Oper} {o : Oper} {a : Act} (hgd : Region.wanted o (yielded ops a.tmps) = true) (v : Value)
    (hrun : ∀ w, C w → (execOp a.eval o).run P w = .ok (.value v) w) (h : wpQuiet P ops C Q rest (a.put o.dst v)) : wpQuiet P ops C Q (o :: rest) a := by
  unfold wpQuiet
  rw [if_pos hgd]
  exact ⟨v, fun w hw => by unfold Oper.quietAt; rw [hrun w hw]; exact ⟨rfl, rfl⟩, h⟩
theorem run_load_v {P : Program} {ρ : Operand → Value} {o : Oper} {w : World} {ty : TypeId} {x : Operand} (ho : o.op = .load ty x) {p : Addr} (hx : ρ x = .pointer (some p)) {v : Value} (hrun : (loadVar ty p).run P w = .ok v w) :
    (execOp ρ o).run P w = .ok (.value v) w := by
  unfold execOp; simp only [ho, hx, Instr.loadAt, Instr.sureAddr, Sem.run_bind, Sem.run_pure, Result.andThen_ok, hrun]
theorem run_bin_v {P : Program} {ρ : Operand → Value} {o : Oper} {w : World} {bop : BinOp} {ty ty2 : TypeId} {x y : Operand} (ho : o.op = .binOp bop ty x y ty2) {X Y : Array Value} (hx : ρ x = .agg X) (hy : ρ y = .agg Y)
    (hm : P.eqGuardType P.depth ty = false) {v : Value} (hrun : (binOp bop ty (.agg X) (.agg Y)).run P w = .ok v w) : (execOp ρ o).run P w = .ok (.value v) w := by
  unfold execOp; simp only [ho, hx, hy, Sem.run_bind, run_eqGuard_agg w bop ty x y X Y hm, hrun, Sem.run_pure, Result.andThen_ok]
section
variable {P : Program}
theorem run_storeVar_row (w : World) (g : Nat) (ty : TypeId) (C cs : Array Value) (t : TypeId) (hB : Blk w g C t) (hs : C.size = cs.size) (h1 : ∀ v ∈ cs.toList, v.oneCell' = true) (hi : (P.info? ty).map (·.size) = some cs.size) :
    (storeVar ty ⟨g, 0, none⟩ (.agg cs)).run P w = .ok () (w.setRow g cs) := by
  have e := run_storeCells_at (P := P) g 0 t cs.toList 0 C w hB (by simp; omega) h1
  cases hq : P.info? ty with
  | none => simp [hq] at hi
  | some i =>
    have hs' : i.size = cs.size := by simpa [hq] using hi
    have e2 : w.setRow g (C.toList.take (0 + 0) ++ cs.toList ++ C.toList.drop (0 + 0 + cs.toList.length)).toArray = w.setRow g cs := by
      have : C.toList.drop (0 + 0 + cs.toList.length) = [] := List.drop_eq_nil_of_le (by simp; omega)
      rw [this]
      simp only [Nat.add_zero, List.take_zero, List.nil_append, List.append_nil, Array.toArray_toList]
    rw [e2] at e
    simp [storeVar, Sem.run_bind, sizeOf, typeInfo, hq, hs', Value.cells, e]
/-- a struct stored into its own variable: the variable's row is the struct -/
theorem wpList_store_row {ops : Array Oper} {rest : List Oper} {o : Oper} {a : Act} {w : World} {Q : Exit → Act → World → Prop} (hgd : o.guard = none) (ty : TypeId) (x y : Operand) (ho : o.op = .store ty x y) (hdst : o.dst = none)
    (g : Nat) (hx : a.eval x = .pointer (some ⟨g, 0, none⟩)) (C cs : Array Value) (t : TypeId) (hB : Blk w g C t) (hy : a.eval y = .agg cs) (hs : C.size = cs.size) (h1 : ∀ v ∈ cs.toList, v.oneCell' = true)
    (hi : (P.info? ty).map (·.size) = some cs.size)
    (h : ∀ w', Blk w' g cs t → Mod (· = g) w w' → wpList P ops Q rest a w') : wpList P ops Q (o :: rest) a w :=
  wpList_plain hgd fun K_ hK => by
    unfold Oper.wp execOp
    simp only [ho, hx, hy, Instr.storeAt, Instr.sureAddr, Sem.run_bind, Sem.run_pure, Result.andThen_ok, run_storeVar_row w g ty C cs t hB hs h1 hi]
    show K_ (a.put o.dst undef) _
    rw [hdst]
    exact hK _ _ (h _ (setRow_heap w g C cs t (0, 0) hB) ⟨rfl, rfl, rfl, by simp [World.setRow], fun k _ hk => setRow_other w g k cs hk⟩)
theorem run_storeVar_row2 (w : World) (g : Nat) (ty : TypeId) (C cs : Array Value) (t : TypeId) (hB : Blk w g C t) (hs : C.size = cs.size) (h1 : ∀ v ∈ cs.toList, v.oneCell' = true) (hi : (P.info? ty).map (·.size) = some cs.size) :
    (storeVar ty ⟨g, 0, none⟩ (.agg cs)).run P w = .ok () (w.setRow g cs) := by
  rw [run_storeVar_part (P := P) w g 0 ty C cs t hB (by omega) h1 hi]
  have : C.toList.drop (0 + cs.size) = [] := List.drop_eq_nil_of_le (by simp; omega)
  rw [this]
  simp
theorem wpList_store_row2 {ops : Array Oper} {rest : List Oper} {o : Oper} {a : Act} {w : World} {Q : Exit → Act → World → Prop} (hgd : o.guard = none) (ty : TypeId) (x y : Operand) (ho : o.op = .store ty x y) (hdst : o.dst = none)
    (g : Nat) (hx : a.eval x = .pointer (some ⟨g, 0, none⟩)) (C cs : Array Value) (t : TypeId) (hB : Blk w g C t) (hy : a.eval y = .agg cs) (hs : C.size = cs.size) (h1 : ∀ v ∈ cs.toList, v.oneCell' = true)
    (hi : (P.info? ty).map (·.size) = some cs.size)
    (h : ∀ w', Blk w' g cs t → Mod (· = g) w w' → wpList P ops Q rest a w') : wpList P ops Q (o :: rest) a w :=
  wpList_plain hgd fun K_ hK => by
    unfold Oper.wp execOp
    simp only [ho, hx, hy, Instr.storeAt, Instr.sureAddr, Sem.run_bind, Sem.run_pure, Result.andThen_ok, run_storeVar_row2 w g ty C cs t hB hs h1 hi]
    show K_ (a.put o.dst undef) _
    rw [hdst]
    exact hK _ _ (h _ (setRow_heap w g C cs t (0, 0) hB) ⟨rfl, rfl, rfl, by simp [World.setRow], fun k _ hk => setRow_other w g k cs hk⟩)
end
theorem results_cell_tmp {P : Program} {fn : Func} {p q : Tmp} {ty : TypeId} (h : fn.results = #[.cell p ty, .tmp q]) (tmps : Array Value) (w : World) (g : Nat) (t : TypeId) (cs : Array Value) (fr : Nat × Nat) (d : TypeDesc)
    (hp : tmps.getD p undef = .pointer (some ⟨g, 0, none⟩)) (hg : w.heap[g]? = some (.cells cs t fr))
    (hu : P.underlying ty = some d) (hd : (match d with | .struct _ | .array _ _ => true | _ => false) = true) (hi : (P.info? ty).map (·.size) = some cs.size) :
    (results fn tmps).run P w = .ok (.tuple #[.agg cs, tmps.getD q undef]) w := by
  have hp' : tmps[p]?.getD undef = .pointer (some ⟨g, 0, none⟩) := by simpa using hp
  simp [results, h, hp', asAddr, run_loadVar_row w g t ty cs fr d hg hu hd hi]
theorem wpList_build1_v {P : Program} {ops : Array Oper} {rest : List Oper} {o : Oper} {a : Act} {w : World} {Q : Exit → Act → World → Prop} (hgd : Region.wanted o (yielded ops a.tmps) = true) (ty : TypeId) (i : Nat) (x : Operand) (ho : o.op = .build ty #[(i, x)])
    (v1 : Value) (hx : a.eval x = v1) (v : Value) (hrun : (Instr.build ty #[(i, v1)]).run P w = .ok v w) (h : wpList P ops Q rest (a.put o.dst v) w) : wpList P ops Q (o :: rest) a w :=
  wpList_v hgd v (by unfold execOp; simp only [ho, hx, List.map_toArray, List.map_cons, List.map_nil, Sem.run_bind, hrun, Sem.run_pure, Result.andThen_ok]) h
theorem wp_world' {P : Program} {c : Code} {Q : Exit → Act → World → Prop} {a : Act} {W : World} (R : World → Prop) (h : R W) (k : ∀ wx, R wx → c.wp P Q a wx) : c.wp P Q a W := k W h
theorem blk_new3 (w : World) (a b : Obj) (C : Array Value) (t : TypeId) : Blk (((w.alloc a).alloc b).alloc (.cells C t)) (w.heap.size + 2) C t := by
  have h := Blk.new ((w.alloc a).alloc b) C t
  simpa using h
theorem run_load_row' {P : Program} (w : World) (g : Nat) (ty : TypeId) (C : Array Value) (t : TypeId) (d : TypeDesc) (hB : Blk w g C t) (hu : P.underlying ty = some d) (hd : (match d with | .struct _ | .array _ _ => true | _ => false) = true)
    (hi : (P.info? ty).map (·.size) = some C.size) : (loadVar ty ⟨g, 0, none⟩).run P w = .ok (.agg C) w := run_loadVar_row w g t ty C (0, 0) d hB hu hd hi
theorem sv {P : Program} {C : World → Prop} {v : Value} {r : Result Next} {w : World} (h : r = .ok (.value v) w) (hC : C w) : stageUpon P C v r := by rw [h]; exact ⟨rfl, hC⟩
theorem ss {P : Program} {C : World → Prop} {r : Result Next} {w : World} (h : r = .ok .skip w) (hC : C w) : stageUpon P C undef r := by rw [h]; exact ⟨rfl, hC⟩
theorem sc {P : Program} {C : World → Prop} {v : Value} {r : Result Next} {w : World} {f : FuncId} {args : Array Value} (h : r = .ok (.enter f args) w) (hC : Calls P f args w fun e w' => e = .returned v ∧ C w') : stageUpon P C v r := by rw [h]; exact hC
theorem run_load_row {P : Program} (w : World) (g : Nat) (ty : TypeId) (C : Array Value) (t : TypeId) (d : TypeDesc) (hB : Blk w g C t) (hu : P.underlying ty = some d) (hd : (match d with | .struct _ | .array _ _ => true | _ => false) = true)
    (hi : (P.info? ty).map (·.size) = some C.size) : (loadVar ty ⟨g, 0, none⟩).run P w = .ok (.agg C) w := run_loadVar_row w g t ty C (0, 0) d hB hu hd hi
theorem wpList_buildn_v {P : Program} {ops : Array Oper} {rest : List Oper} {o : Oper} {a : Act} {w : World} {Q : Exit → Act → World → Prop} (hgd : Region.wanted o (yielded ops a.tmps) = true) (ty : TypeId) (parts : Array (Nat × Operand)) (ho : o.op = .build ty parts)
    (vs : Array (Nat × Value)) (hp : (parts.map fun (i, x) => (i, a.eval x)) = vs) (v : Value) (hrun : (Instr.build ty vs).run P w = .ok v w) (h : wpList P ops Q rest (a.put o.dst v) w) : wpList P ops Q (o :: rest) a w :=
  wpList_v hgd v (by unfold execOp; simp only [ho, hp, Sem.run_bind, hrun, Sem.run_pure, Result.andThen_ok]) h
theorem new_below (w : World) (o : Obj) : Below w.heap.size w (w.alloc o) := (Below.refl _ _).alloc (Nat.le_refl _) o
theorem wpList_cvt {P : Program} {ops : Array Oper} {rest : List Oper} {o : Oper} {a : Act} {w w' : World} {Q : Exit → Act → World → Prop} (hgd : Region.wanted o (yielded ops a.tmps) = true) (s t : TypeId) (x : Operand) (ho : o.op = .convert s t x)
    (v : Value) (hx : a.eval x = v) (u : Value) (hrun : (convert s t v).run P w = .ok u w') (h : wpList P ops Q rest (a.put o.dst u) w') : wpList P ops Q (o :: rest) a w :=
  wpList_step fun K hK => by
    rw [if_pos hgd]
    unfold Oper.wp execOp
    simp only [ho, hx, Sem.run_bind, hrun, Result.andThen_ok, Sem.run_pure]
    exact hK _ _ h
theorem sk {R : Value → World → Prop} {f : FuncId} {args : Array Value} {P : Program} {r : Result Next} {w : World} (h : r = .ok (.enter f args) w) (hC : Calls P f args w fun e w'' => ∃ v, e = .returned v ∧ R v w'') : upon2 P R r := by rw [h]; exact hC
section
variable {ρ : Operand → Value} {o : Oper} {w : World} {x y : Operand}
theorem run_mov {v : Value} (ho : o.op = .move x) (hx : ρ x = v) : (execOp ρ o).run Try.prog w = .ok (.value v) w := by
  unfold execOp; simp only [ho, hx, Sem.run_pure]
theorem run_asg {v : Value} (ho : o.op = .assign x) (hx : ρ x = v) : (execOp ρ o).run Try.prog w = .ok (.value v) w := by
  unfold execOp; simp only [ho, hx, Sem.run_pure]
theorem run_fldT {b off off2 f : Nat} {ty : TypeId} (ho : o.op = .fieldAddr ty x f) (hx : ρ x = .pointer (some ⟨b, off, none⟩)) (hf : ∀ w, (Instr.fieldAt ty (.pointer (some ⟨b, off, none⟩)) f).run Try.prog w = .ok (.pointer (some ⟨b, off2, none⟩)) w) :
    (execOp ρ o).run Try.prog w = .ok (.value (.pointer (some ⟨b, off2, none⟩))) w := by
  unfold execOp; simp only [ho, hx, Sem.run_bind, hf, Result.andThen_ok, Sem.run_pure]
theorem run_cvt {v u : Value} {s t : TypeId} (ho : o.op = .convert s t x) (hx : ρ x = v) (h : (convert s t v).run Try.prog w = .ok u w) : (execOp ρ o).run Try.prog w = .ok (.value u) w := by
  unfold execOp
  simp only [ho, hx, Sem.run_bind, h, Result.andThen_ok, Sem.run_pure]
end
theorem run_load1 {ρ : Operand → Value} {o : Oper} {w : World} {x : Operand} {p : Addr} {v : Value} {ty : TypeId} (ho : o.op = .load ty x) (hx : ρ x = .pointer (some p)) (hrun : (loadVar ty p).run Try.prog w = .ok v w) :
    (execOp ρ o).run Try.prog w = .ok (.value v) w := by
  unfold execOp; simp only [ho, hx, Instr.loadAt, Instr.sureAddr, Sem.run_bind, Sem.run_pure, Result.andThen_ok, hrun]
theorem run_storeP {ρ : Operand → Value} {o : Oper} {w w' : World} {x y : Operand} {p : Addr} {cs : Array Value} {ty : TypeId} (ho : o.op = .store ty x y) (hx : ρ x = .pointer (some p)) (hy : ρ y = .agg cs) (hrun : (storeVar ty p (.agg cs)).run Try.prog w = .ok () w') :
    (execOp ρ o).run Try.prog w = .ok .skip w' := by
  unfold execOp
  simp only [ho, hx, hy, Instr.storeAt, Instr.sureAddr, Sem.run_bind, Sem.run_pure, Result.andThen_ok, hrun]
theorem run_i64 {w : World} {p : Addr} {n : Int} (hc : w.cell? p = some (.int .i64 n)) : (loadVar 3 p).run Try.prog w = .ok (.int .i64 n) w := by go_simp
theorem ba_beq (a b : ByteArray) : (a == b) = decide (a = b) := by
  cases a with | mk x => cases b with | mk y =>
  have h : (({ data := x } : ByteArray) == { data := y }) = (x == y) := by
    show ByteArray.beq _ _ = _
    simp only [ByteArray.beq]
  rw [h, Bool.eq_iff_iff]
  simp
theorem wpList_ix {P : Program} {ops : Array Oper} {rest : List Oper} {o : Oper} {a : Act} {w : World} {Q : Exit → Act → World → Prop} (hgd : Region.wanted o (yielded ops a.tmps) = true) (ty : TypeId) (x y : Operand) (ho : o.op = .index ty x y)
    (v1 v2 : Value) (hx : a.eval x = v1) (hy : a.eval y = v2) (v : Value) (hrun : (Instr.index ty v1 v2).run P w = .ok v w) (h : wpList P ops Q rest (a.put o.dst v) w) : wpList P ops Q (o :: rest) a w :=
  wpList_v hgd v (by unfold execOp; simp only [ho, hx, hy, Sem.run_bind, hrun, Sem.run_pure, Result.andThen_ok]) h
end Go.Proofs.Ytpbmeeogledmdae
namespace Go.Proofs.Ytpbmeeogledmdae
open Go.RowKit

abbrev Pairs := List (Int × Int × Int)
def esL : Nat → Pairs → List MapEntry
  | _, [] => []
  | i, x :: r => { key := .int .i64 x.1, val := .agg #[.int .i64 x.2.1, .int .i64 x.2.2], born := i } :: esL (i + 1) r
def esA (M : Pairs) : Array MapEntry := (esL 0 M).toArray
/-- what lies at a key; nothing: zeros -/
def lookM : Pairs → Int → Int × Int
  | [], _ => (0, 0)
  | x :: r, k => if x.1 = k then x.2 else lookM r k
def atM : Pairs → Int → Option Nat
  | [], _ => none
  | x :: r, k => if x.1 = k then some 0 else (atM r k).map (· + 1)
def putM : Pairs → Int → Int × Int → Pairs
  | [], k, v => [(k, v)]
  | x :: r, k, v => if x.1 = k then (k, v) :: r else x :: putM r k v
theorem esL_len : ∀ (M : Pairs) (i : Nat), (esL i M).length = M.length
  | [], _ => rfl
  | x :: r, i => by simp [esL, esL_len r]
theorem lookM_none : ∀ (M : Pairs) (k : Int), atM M k = none → lookM M k = (0, 0)
  | [], _, _ => rfl
  | x :: r, k, h => by
    unfold atM at h
    unfold lookM
    by_cases e : x.1 = k
    · rw [if_pos e] at h; cases h
    · rw [if_neg e] at h ⊢
      exact lookM_none r k (by cases hr : atM r k with | none => rfl | some j => rw [hr] at h; cases h)
def pairV (v : Int × Int) : Value := .agg #[.int .i64 v.1, .int .i64 v.2]
theorem find_es (d : TypeDesc) (hd : d = .int .i64) (k : Int) : ∀ (M : Pairs) (i j : Nat), Instr.findNow d (.int .i64 k) (esL i M) j = some ((atM M k).map fun n => (j + n, pairV (lookM M k)))
  | [], i, j => by subst hd; rfl
  | x :: r, i, j => by
    subst hd
    unfold esL Instr.findNow atM lookM
    by_cases e : x.1 = k
    · subst e
      simp [Instr.sameNow, pairV]
    · have e' : (k == x.1) = false := beq_eq_false_iff_ne.2 (fun h => e h.symm)
      simp only [Instr.sameNow, if_true, e', if_neg e]
      rw [find_es (.int .i64) rfl k r (i + 1) (j + 1)]
      cases atM r k with
      | none => rfl
      | some n => simp; omega
section
variable {P : Program}
theorem run_lookup_pairs (w : World) (t ke ve m : Nat) (M : Pairs) (k : Int) (ht : P.underlying t = some (.map ke ve)) (hk : P.underlying ke = some (.int .i64)) (hz : ∀ w, (zeroValue ve).run P w = .ok (pairV (0, 0)) w)
    (hb : w.heap[m]? = some (.map (esA M) M.length)) : (Instr.lookup t (.map (some m)) (.int .i64 k) false).run P w = .ok (pairV (lookM M k)) w := by
  have hck : ∀ b w, (Instr.checkKey b 10000 ke (.int .i64 k)).run P w = .ok () w := fun b w => by
    unfold Instr.checkKey
    simp [Sem.run_bind, run_underlying hk]
  have hfk : ∀ w, (Instr.findKey ke (.int .i64 k) (esA M).toList).run P w = .ok ((atM M k).map fun n => (0 + n, pairV (lookM M k))) w := fun w => by
    unfold Instr.findKey esA
    simp only [Sem.run_bind, run_underlying hk, Result.andThen_ok]
    rw [find_es _ rfl]
    rfl
  have hgo : (getObj m).run P w = .ok (.map (esA M) M.length) w := by simp [getObj, Sem.run, hb]
  unfold Instr.lookup
  simp only [Sem.run_bind, run_underlying ht, Result.andThen_ok, hgo, Sem.run_pure, hck, hfk]
  cases ha : atM M k with
  | none =>
    simp only [Option.map_none, Sem.run_bind, hz, Result.andThen_ok, Sem.run_pure, Bool.false_eq_true, if_false]
    rw [lookM_none M k ha]
  | some n =>
    simp only [Option.map_some, Sem.run_bind, Sem.run_pure, Result.andThen_ok, Bool.false_eq_true, if_false]
theorem esL_put : ∀ (M : Pairs) (k : Int) (v : Int × Int) (i : Nat), match atM M k with
    | some n => (esL i M).toArray.modify n (fun e => { e with key := .int .i64 k, val := pairV v }) = (esL i (putM M k v)).toArray
    | none => (esL i M).toArray.push { key := .int .i64 k, val := pairV v, born := i + M.length } = (esL i (putM M k v)).toArray
  | [], k, v, i => by simp [atM, esL, putM, pairV]
  | x :: r, k, v, i => by
    unfold atM putM
    by_cases e : x.1 = k
    · rw [if_pos e, if_pos e]
      apply Array.ext_getElem?
      intro j
      rw [Array.getElem?_modify]
      unfold esL
      cases j with
      | zero => simp [pairV]
      | succ j => simp
    · rw [if_neg e, if_neg e]
      have ih := esL_put r k v (i + 1)
      cases ha : atM r k with
      | none =>
        rw [ha] at ih
        simp only [Option.map_none] at ih ⊢
        apply Array.toList_inj.1
        have ih' := congrArg Array.toList ih
        simp only [Array.toList_push] at ih' ⊢
        unfold esL
        rw [← ih']
        simp
        omega
      | some n =>
        rw [ha] at ih
        simp only [Option.map_some] at ih ⊢
        apply Array.ext_getElem?
        intro j
        rw [Array.getElem?_modify]
        unfold esL
        cases j with
        | zero => simp
        | succ j =>
          have := congrArg (fun a => a[j]?) ih
          simp only [Array.getElem?_modify] at this
          simpa using this
theorem putM_len : ∀ (M : Pairs) (k : Int) (v : Int × Int), (putM M k v).length = match atM M k with | some _ => M.length | none => M.length + 1
  | [], k, v => by simp [atM, putM]
  | x :: r, k, v => by
    unfold atM putM
    by_cases e : x.1 = k
    · rw [if_pos e, if_pos e]; rfl
    · rw [if_neg e, if_neg e]
      have ih := putM_len r k v
      cases ha : atM r k with
      | none => rw [ha] at ih; simp [ih]
      | some n => rw [ha] at ih; simp [ih]
theorem atM_lt : ∀ (M : Pairs) (k : Int) (n : Nat), atM M k = some n → ∃ x, (esL 0 M)[n]? = some x ∧ x.key = .int .i64 k := by
  have key : ∀ (M : Pairs) (k : Int) (n i : Nat), atM M k = some n → ∃ x, (esL i M)[n]? = some x ∧ x.key = .int .i64 k := by
    intro M
    induction M with
    | nil => intro k n i h; cases h
    | cons x r ih =>
      intro k n i h
      unfold atM at h
      unfold esL
      by_cases e : x.1 = k
      · rw [if_pos e] at h
        cases h
        exact ⟨_, rfl, by rw [e]⟩
      · rw [if_neg e] at h
        cases ha : atM r k with
        | none => rw [ha] at h; cases h
        | some m =>
          rw [ha] at h
          cases h
          obtain ⟨y, h1, h2⟩ := ih k m (i + 1) ha
          exact ⟨y, by simpa using h1, h2⟩
  exact fun M k n h => key M k n 0 h
open Go.ChangeMaps (setBlock) in
theorem run_update_pairs (w : World) (t ke ve m : Nat) (M : Pairs) (k : Int) (v : Int × Int) (ht : P.underlying t = some (.map ke ve)) (hk : P.underlying ke = some (.int .i64))
    (hb : w.heap[m]? = some (.map (esA M) M.length)) : (Instr.mapUpdate t (.map (some m)) (.int .i64 k) (pairV v)).run P w = .ok () (setBlock w m (.map (esA (putM M k v)) (putM M k v).length)) := by
  have hck : ∀ b w, (Instr.checkKey b 10000 ke (.int .i64 k)).run P w = .ok () w := fun b w => by
    unfold Instr.checkKey
    simp [Sem.run_bind, run_underlying hk]
  have hfk : ∀ w, (Instr.findKey ke (.int .i64 k) (esA M).toList).run P w = .ok ((atM M k).map fun n => (0 + n, pairV (lookM M k))) w := fun w => by
    unfold Instr.findKey esA
    simp only [Sem.run_bind, run_underlying hk, Result.andThen_ok]
    rw [find_es _ rfl]
    rfl
  have hgo : (getObj m).run P w = .ok (.map (esA M) M.length) w := by simp [getObj, Sem.run, hb]
  have hso : ∀ o, (setObj m o).run P w = .ok () (setBlock w m o) := fun o => by simp [setObj, Sem.run, hb, setBlock]
  have hks : (Instr.keyThatStays (.int .i64 k) (.int .i64 k)).run P w = .ok (.int .i64 k) w := by
    unfold Instr.keyThatStays
    rw [if_pos (by simp [Instr.sameBits])]
    rfl
  have hp := esL_put M k v 0
  have hl := putM_len M k v
  unfold Instr.mapUpdate
  simp only [Sem.run_bind, run_underlying ht, Result.andThen_ok, hgo, hck, hfk]
  cases ha : atM M k with
  | none =>
    rw [ha] at hp hl
    simp only [Nat.zero_add] at hp
    simp only [Option.map_none, hso]
    rw [hl]
    unfold esA
    rw [← hp]
  | some n =>
    rw [ha] at hp hl
    obtain ⟨x, hx, hxk⟩ := atM_lt M k n ha
    have he : ((esA M)[n]?.map (·.key)).getD (.int .i64 k) = .int .i64 k := by
      unfold esA
      rw [List.getElem?_toArray, hx]
      exact hxk
    simp only [Option.map_some, Nat.zero_add, Sem.run_bind, he, hks, Result.andThen_ok, hso]
    rw [hl]
    unfold esA
    rw [← hp]
theorem wpList_vw {ops : Array Oper} {rest : List Oper} {o : Oper} {a : Act} {w w' : World} {Q : Exit → Act → World → Prop} (hgd : Region.wanted o (yielded ops a.tmps) = true) (v : Value)
    (hrun : (execOp a.eval o).run P w = .ok (.value v) w') (h : wpList P ops Q rest (a.put o.dst v) w') : wpList P ops Q (o :: rest) a w :=
  wpList_step fun K hK => by
    rw [if_pos hgd]
    unfold Oper.wp
    rw [hrun]
    exact hK _ _ h
theorem wpList_sw {ops : Array Oper} {rest : List Oper} {o : Oper} {a : Act} {w w' : World} {Q : Exit → Act → World → Prop} (hgd : Region.wanted o (yielded ops a.tmps) = true) (hdst : o.dst = none)
    (hrun : (execOp a.eval o).run P w = .ok .skip w') (h : wpList P ops Q rest a w') : wpList P ops Q (o :: rest) a w :=
  wpList_step fun K hK => by
    rw [if_pos hgd]
    unfold Oper.wp
    rw [hrun]
    show K (a.put o.dst undef) _
    rw [hdst]
    exact hK _ _ h
variable {ρ : Operand → Value} {o : Oper} {w w' : World} {x y z : Operand} {t : TypeId} {u v k : Value}
theorem exec_lookup {ok : Bool} (ho : o.op = .lookup t x y ok) (hx : ρ x = u) (hy : ρ y = k) (h : (Instr.lookup t u k ok).run P w = .ok v w') : (execOp ρ o).run P w = .ok (.value v) w' := by
  unfold execOp; simp only [ho, hx, hy, Sem.run_bind, h, Result.andThen_ok, Sem.run_pure]
theorem exec_update (ho : o.op = .mapUpdate t x y z) (hx : ρ x = u) (hy : ρ y = k) (hz : ρ z = v) (h : (Instr.mapUpdate t u k v).run P w = .ok () w') : (execOp ρ o).run P w = .ok .skip w' := by
  unfold execOp; simp only [ho, hx, hy, hz, Sem.run_bind, h, Result.andThen_ok, Sem.run_pure]
theorem exec_next {b : Bool} (ho : o.op = .next x b) (hx : ρ x = u) (h : (Instr.next u b o.type).run P w = .ok v w') : (execOp ρ o).run P w = .ok (.value v) w' := by
  unfold execOp; simp only [ho, hx, Sem.run_bind, h, Result.andThen_ok, Sem.run_pure]
theorem exec_entry (ho : o.op = .entry x) (hx : ρ x = u) (h : (Instr.entry u).run P w = .ok v w') : (execOp ρ o).run P w = .ok (.value v) w' := by
  unfold execOp; simp only [ho, hx, Sem.run_bind, h, Result.andThen_ok, Sem.run_pure]
theorem exec_range (ho : o.op = .range t x) (hx : ρ x = u) (h : (Instr.range t u).run P w = .ok v w') : (execOp ρ o).run P w = .ok (.value v) w' := by
  unfold execOp; simp only [ho, hx, Sem.run_bind, h, Result.andThen_ok, Sem.run_pure]
end
open Go.ChangeMaps (setBlock)
theorem setBlock_mod (w : World) (m : Nat) (o : Obj) : Mod (· = m) w (setBlock w m o) :=
  ⟨rfl, rfl, rfl, by simp [setBlock], fun i _ hi => by simp only [setBlock]; rw [Array.getElem?_setIfInBounds_ne (fun e => hi e.symm)]⟩
theorem setBlock_at (w : World) (m : Nat) (o : Obj) (h : m < w.heap.size) : (setBlock w m o).heap[m]? = some o := by
  simp [setBlock, h]
/-- a map in a block -/
def MapAt (w : World) (m : Nat) (M : Pairs) : Prop := w.heap[m]? = some (.map (esA M) M.length)
theorem MapAt.lt {w : World} {m : Nat} {M : Pairs} (h : MapAt w m M) : m < w.heap.size := by
  rcases Nat.lt_or_ge m w.heap.size with k | k
  · exact k
  · unfold MapAt at h; rw [Array.getElem?_eq_none k] at h; cases h
theorem MapAt.mod {w w' : World} {m : Nat} {M : Pairs} (h : MapAt w m M) {S : Nat → Prop} (hm : Mod S w w') (hs : ¬ S m) : MapAt w' m M := (hm.block m h.lt hs).trans h
theorem MapAt.new (w : World) : MapAt (w.alloc (.map #[] 0)) w.heap.size [] := World.alloc_heap_new w _
theorem MapAt.update {P : Program} {w : World} {m : Nat} {M : Pairs} (h : MapAt w m M) (t ke ve : Nat) (k : Int) (v : Int × Int) (ht : P.underlying t = some (.map ke ve)) (hk : P.underlying ke = some (.int .i64)) :
    ∃ w', (Instr.mapUpdate t (.map (some m)) (.int .i64 k) (pairV v)).run P w = .ok () w' ∧ MapAt w' m (putM M k v) ∧ Mod (· = m) w w' :=
  ⟨_, run_update_pairs w t ke ve m M k v ht hk h, setBlock_at _ _ _ h.lt, setBlock_mod _ _ _⟩
theorem run_range_map {P : Program} {w : World} {m : Nat} {M : Pairs} (h : MapAt w m M) (t ke ve : Nat) (ht : P.underlying t = some (.map ke ve)) :
    (Instr.range t (.map (some m))).run P w = .ok (.pointer (some ⟨w.heap.size, 0, none⟩)) (w.alloc (.mapIter (some m) M.length #[] M.length)) := by
  have hgo : (getObj m).run P w = .ok (.map (esA M) M.length) w := by
    unfold MapAt at h
    simp [getObj, Sem.run, h]
  unfold Instr.range
  simp only [Sem.run_bind, run_underlying ht, Result.andThen_ok, hgo, Sem.run_pure]
  rfl
/-- an iterator that has handed out those in S -/
def IterAt (w : World) (r m n : Nat) (S : Array Nat) : Prop := ∃ c, n ≤ c ∧ w.heap[r]? = some (.mapIter (some m) n S c)
theorem esL_born : ∀ (M : Pairs) (i : Nat), (esL i M).map (·.born) = (List.range' i M.length)
  | [], i => rfl
  | x :: r, i => by simp [esL, esL_born r, List.range'_succ]
theorem esL_get : ∀ (M : Pairs) (i j : Nat) (e : MapEntry), (esL i M)[j]? = some e → ∃ x, M[j]? = some x ∧ e = { key := .int .i64 x.1, val := pairV x.2, born := i + j }
  | [], i, j, e, h => by simp [esL] at h
  | x :: r, i, j, e, h => by
    unfold esL at h
    cases j with
    | zero => simp at h; exact ⟨x, rfl, h.symm⟩
    | succ j =>
      simp at h
      obtain ⟨y, h1, h2⟩ := esL_get r (i + 1) j e h
      exact ⟨y, by simpa using h1, by rw [h2]; congr 1; omega⟩
theorem next_map {P : Program} {w : World} {r m : Nat} {M : Pairs} {S : Array Nat} (hM : MapAt w m M) (hI : IterAt w r m M.length S) (ty : TypeId) (hr : r < w.heap.size) (hne : r ≠ m) :
    ((∀ j, j < M.length → j ∈ S) ∧ (Instr.next (.pointer (some ⟨r, 0, none⟩)) false ty).run P w = .ok (.tuple #[.bool false]) w) ∨
    ∃ j x w', M[j]? = some x ∧ j ∉ S ∧ (Instr.next (.pointer (some ⟨r, 0, none⟩)) false ty).run P w = .ok (.tuple #[.bool true, .int .i64 x.1, pairV x.2]) w' ∧ MapAt w' m M ∧ IterAt w' r m M.length (S.push j) ∧ Mod (· = r) w w' ∧
      (Instr.entry (.pointer (some ⟨r, 0, none⟩))).run P w' = .ok (.tuple #[.int .i64 x.1, pairV x.2]) w' := by
  obtain ⟨c, hc, hIt⟩ := hI
  have hb : ∀ e ∈ (esA M).toList, e.born < M.length := by
    intro e he
    have h1 : e.born ∈ (esL 0 M).map (·.born) := List.mem_map.2 ⟨e, by simpa [esA] using he, rfl⟩
    rw [esL_born] at h1
    simpa using h1
  rcases run_next_at (P := P) w ty r m M.length c S (esA M) M.length hIt hM hb hc with ⟨h0, hrun⟩ | ⟨e, he, w1, hw1, hrun⟩
  · refine .inl ⟨fun j hj => ?_, hrun⟩
    have hle : (esL 0 M).length = M.length := esL_len M 0
    have hg : (esL 0 M)[j]? = some ((esL 0 M)[j]'(by omega)) := List.getElem?_eq_getElem (by omega)
    obtain ⟨x, _, hx⟩ := esL_get M 0 j _ hg
    have h0' : leftOf (esA M) S = #[] := Array.eq_empty_of_size_eq_zero h0
    unfold leftOf at h0'
    rw [Array.filter_eq_empty_iff] at h0'
    have := h0' ((esL 0 M)[j]'(by omega)) (by simp [esA])
    rw [hx] at this
    simpa using this
  · right
    unfold leftOf at he
    simp only [Array.toList_filter, List.mem_filter] at he
    obtain ⟨he1, he2⟩ := he
    have he1' : e ∈ esL 0 M := by simpa [esA] using he1
    obtain ⟨j, hj, hje⟩ := List.getElem_of_mem he1'
    obtain ⟨x, hx, hxe⟩ := esL_get M 0 j e (by rw [List.getElem?_eq_getElem hj, hje])
    have hborn : e.born = j := by rw [hxe]; simp
    have hw1s : w1.heap = w.heap := by rcases hw1 with rfl | rfl <;> rfl
    have hl1 : r < w1.heap.size := by rw [hw1s]; exact hr
    have hmod1 : Mod (· = r) w w1 := by
      rcases hw1 with rfl | rfl
      · exact Mod.refl _ _
      · exact (Mod.refl _ _).drew
    have hmod := hmod1.trans (setBlock_mod w1 r (.mapIter (some m) M.length (S.push e.born) M.length))
    have hM' : MapAt (setBlock w1 r (.mapIter (some m) M.length (S.push e.born) M.length)) m M := hM.mod hmod (by show ¬ m = r; exact fun h => hne h.symm)
    have hI' := setBlock_at w1 r (.mapIter (some m) M.length (S.push e.born) M.length) hl1
    refine ⟨j, x, _, hx, ?_, by rw [hrun, hxe], hM', ⟨M.length, Nat.le_refl _, by rw [hI', hborn]⟩, hmod, ?_⟩
    · rw [hborn] at he2
      simpa using he2
    · have := run_entry_at (P := P) _ r m M.length S (esA M) M.length e hI' hM' he1 (by
        have : (esA M).toList.map (·.born) = List.range' 0 M.length := by simp only [esA]; exact esL_born M 0
        rw [this]
        exact List.nodup_range')
      rw [this, hxe]
end Go.Proofs.Ytpbmeeogledmdae
namespace Go.Proofs.Ytpbmeeogledmdae
open Go.RowKit

theorem addr_add_add (a : Addr) (m n : Nat) : (a.add m).add n = a.add (m + n) := by
  unfold Addr.add
  by_cases hm : m = 0
  · subst hm; simp
  · by_cases hn : n = 0
    · subst hn; simp [hm]
    · simp [hm, hn, Nat.add_assoc]
/-- a row of structs of n cells each -/
structure Els (w : World) (p : Option Addr) (n : Nat) (R : List (List Value)) : Prop where
  nil : p = none → R = []
  len : ∀ x ∈ R, x.length = n
  big : R.length ≤ 140737488351232
  cells : ∀ a, p = some a → ∀ k x j v, R[k]? = some x → x[j]? = some v → w.cell? (a.add (k * n + j)) = some v
section
variable {w w' : World} {p : Option Addr} {n : Nat} {R : List (List Value)}
theorem Els.below (h : Els w p n R) (hb : Below w.heap.size w w') : Els w' p n R :=
  ⟨h.nil, h.len, h.big, fun a ha k x j v hk hj => (hb.cell (p := a.add (k * n + j)) (World.block_lt_of_cell? w _ (h.cells a ha k x j v hk hj))).trans (h.cells a ha k x j v hk hj)⟩
theorem Els.load {P : Program} (h : Els w p n R) {a : Addr} (ha : p = some a) {k : Nat} (hk : k < R.length) {ty : TypeId} {d : TypeDesc}
    (hu : P.underlying ty = some d) (hd : (match d with | .struct _ | .array _ _ => true | _ => false) = true) (hi : (P.info? ty).map (·.size) = some n) :
    (loadVar ty (a.add (k * n))).run P w = .ok (.agg R[k].toArray) w := by
  have hx := h.len _ (List.getElem_mem hk)
  refine run_loadVar_at w _ ty R[k] d (fun j v hj => ?_) hu hd (by rw [hi, hx])
  rw [addr_add_add]
  exact h.cells a ha k _ j v (List.getElem?_eq_getElem hk) hj
theorem Els.some_of (h : Els w p n R) {k : Nat} (hk : k < R.length) : ∃ a, p = some a := by
  cases p with
  | none => rw [h.nil rfl] at hk; cases hk
  | some a => exact ⟨a, rfl⟩
theorem Els.take (h : Els w p n R) (k : Nat) : Els w p n (R.take k) :=
  ⟨fun e => by rw [h.nil e, List.take_nil], fun x hx => h.len x (List.mem_of_mem_take hx), by rw [List.length_take]; have := h.big; omega, fun a ha i x j v hi hj => h.cells a ha i x j v (by
    rw [List.getElem?_take] at hi
    split at hi
    · exact hi
    · cases hi) hj⟩
end
/-- a stop -/
def stV (s : Int × Int) : List Value := [.int .i64 s.1, .int .i64 s.2]
theorem stV_len (l : List (Int × Int)) : ∀ x ∈ l.map stV, x.length = 2 := by
  intro x hx
  obtain ⟨s, _, rfl⟩ := List.mem_map.1 hx
  rfl
theorem stV_one (s : Int × Int) : ∀ v ∈ (stV s).toArray.toList, v.oneCell' = true := by simp [stV, Value.oneCell']

/-- one stop more: the map, or that it may not be -/
def chStep (M : Pairs) (s : Int × Int) : Option Pairs :=
  if s.1 < 0 then none
  else if s.2 = 0 ∧ lookM M s.1 = (0, 0) then some (putM M s.1 (1, 0))
  else if s.2 = 1 ∧ lookM M s.1 = (1, 0) then some (putM M s.1 (1, 1))
  else none
def chRun : List (Int × Int) → Pairs → Pairs × Bool
  | [], M => (M, true)
  | s :: r, M => match chStep M s with | none => (M, false) | some M' => chRun r M'
def unB (M : Pairs) : Bool := M.any fun x => x.2.1 != x.2.2
/-- what route.Check answers -/
def chkP (l : List (Int × Int)) : Int :=
  if 16 < l.length then 11 else if (chRun l []).2 then (if unB (chRun l []).1 then 8 else 0) else 8
theorem chRun_step {l : List (Int × Int)} {k : Nat} {M : Pairs} (hk : k < l.length) : chRun (l.drop k) M = match chStep M l[k] with | none => (M, false) | some M' => chRun (l.drop (k + 1)) M' := by
  rw [List.drop_eq_getElem_cons hk]
  rfl
end Go.Proofs.Ytpbmeeogledmdae
namespace Go.Proofs.Ytpbmeeogledmdae
open Go.RowKit

theorem blk_grown {w w' : World} {row : Option Nat} {b : Nat} {C : Array Value} {t : TypeId} (h : Blk w b C t) (hg : w.grownBy w' row) (hne : some b ≠ row) : Blk w' b C t := (hg.block b h.lt hne).trans h
theorem wpList_bsd {P : Program} {ops : Array Oper} {rest : List Oper} {o : Oper} {a : Act} {w w' : World} {Q : Exit → Act → World → Prop} (hgd : o.guard = none) {t : TypeId} {n : Nat} {vs : Array (Nat × Value)} {v : Value} (hrun : (Instr.buildSlice t n vs).run P w = .ok v w')
    {parts : Array (Nat × Operand)} (ho : o.op = .buildSlice t n parts) (hp : (parts.map fun (i, x) => (i, a.eval x)) = vs) (h : wpList P ops Q rest (a.put o.dst v) w') : wpList P ops Q (o :: rest) a w :=
  wpList_plain hgd fun _ hK => by
    unfold Oper.wp execOp
    simp only [ho, hp, Sem.run_bind, hrun, Sem.run_pure, Result.andThen_ok]
    exact hK _ _ h
theorem own_isS {w : World} {b : Nat} {e : TypeId} {n : Nat} {v : Value} {k : Nat} {xs : List Value} (h : w.ownsRow b e n v k xs) : ∃ p m c, v = .slice p m c := by
  rcases h.2 with ⟨hv, _⟩ | ⟨g, cap, cur, hv, _⟩
  · exact ⟨_, _, _, hv⟩
  · exact ⟨_, _, _, hv⟩
theorem grown_blk {w w' : World} {b : Nat} {C : Array Value} {t e : TypeId} {v : Value} {k n base : Nat} {xs : List Value} (h : Blk w b C t) (ho : w.ownsRow base e n v k xs) (hb : b < base) (hg : w.grownBy w' v.ownBlock) : Blk w' b C t :=
  blk_grown h hg fun e => by have := ho.lt _ e.symm; omega
theorem grown_low {B : Nat} {w0 w w' : World} {e : TypeId} {v : Value} {k n base : Nat} {xs : List Value} (hb : Below B w0 w) (hB : B ≤ base) (hl : B ≤ w0.heap.size) (ho : w.ownsRow base e n v k xs) (hg : w.grownBy w' v.ownBlock) : Below B w0 w' :=
  hb.trans (((Mod.refl (fun k => B ≤ k) w).grown hg (fun k hk _ => by have := ho.lt k hk; omega)).below (Nat.le_trans hl hb.size) (fun _ g => g))
theorem row_cells {w : World} {g : Nat} {R : List Value} {t : TypeId} (h : Blk w g R.toArray t) : ∀ j u, R[j]? = some u → w.cell? ((⟨g, 0, none⟩ : Addr).add j) = some u := by
  intro j u hj
  have e1 : (⟨g, 0, none⟩ : Addr).add j = ⟨g, j, none⟩ := by unfold Addr.add; split <;> simp_all
  rw [e1]
  exact h.cell (by simpa using hj)
/-- what append wants of a type of elements -/
structure ElT (P : Program) (T E : TypeId) (n b : Nat) : Prop where
  under : P.underlying T = some (.slice E)
  size : (P.info? E).map (·.size) = some n
  bytes : (P.info? E).map (·.bytes) = some b
  zero : ((P.info? E).bind (·.zero)).map (·.cells.size) = some n
  pos : 0 < n
  small : b ≤ 1000
section
variable {P : Program} {T E : TypeId} {n b : Nat}
theorem run_appG (hT : ElT P T E n b) {ρ : Operand → Value} {o : Oper} {w : World} {x y : Operand} (base : Nat) (hbase : base ≤ w.heap.size) (v : Value) (m : Nat) (xs : List Value) (ho : o.op = .call { callee := .builtin .append, args := #[x, y], argTypes := #[T, T] })
    (hx : ρ x = v) (hown : w.ownsRow base E n v m xs) (hm : m ≤ 100000) (a : Addr) (k c : Nat) (news : List Value) (hy : ρ y = .slice (some a) k c) (hl : news.length = k * n) (hk : k ≤ 1000) (hc : ∀ j u, news[j]? = some u → w.cell? (a.add j) = some u) (h1 : ∀ u ∈ news, u.oneCell' = true) :
    ∃ v' w', (execOp ρ o).run P w = .ok (.value v') w' ∧ w'.ownsRow base E n v' (m + k) (xs ++ news) ∧ w.grownBy w' v.ownBlock := by
  obtain ⟨ht, e1, e2, e3, hp, hb⟩ := hT
  obtain ⟨i, hi⟩ : ∃ i, P.info? E = some i := by
    cases h : P.info? E with
    | none => rw [h] at e1; cases e1
    | some i => exact ⟨i, rfl⟩
  rw [hi] at e1 e2 e3
  simp only [Option.map_some, Option.some.injEq, Option.bind_some] at e1 e2 e3
  obtain ⟨z, hzz⟩ : ∃ z, i.zero = some z := by
    cases hz : i.zero with
    | none => rw [hz] at e3; cases e3
    | some z => exact ⟨z, rfl⟩
  rw [hzz] at e3
  simp only [Option.map_some, Option.some.injEq] at e3
  have hbb : (m + k) * b ≤ 101000 * 1000 := Nat.mul_le_mul (by omega) hb
  obtain ⟨v', w', h2, h3, h4, _⟩ := run_append_own (P := P) w base T o.type E i z n b ht hi hzz e1 e2 e3 hp v m xs hown a k c news hl hc h1 (by unfold maxLen; omega) (by omega) hbase
  refine ⟨v', w', ?_, h3, h4⟩
  unfold execOp
  simp only [ho, resolve, invoke, builtin, Sem.run_bind, Sem.run_pure, Result.andThen_ok, List.map_toArray, List.map_cons, List.map_nil, hx, hy, h2]
theorem wpList_appG (hT : ElT P T E n b) {ops : Array Oper} {rest : List Oper} {o : Oper} {a : Act} {w : World} {Q : Exit → Act → World → Prop} (hgd : o.guard = none) (x y : Operand) (ho : o.op = .call { callee := .builtin .append, args := #[x, y], argTypes := #[T, T] })
    (base : Nat) (hbase : base ≤ w.heap.size) (v : Value) (m : Nat) (xs : List Value) (hx : a.eval x = v) (hown : w.ownsRow base E n v m xs) (hm : m ≤ 100000) (q : Addr) (k c : Nat) (news : List Value) (hy : a.eval y = .slice (some q) k c) (hl : news.length = k * n) (hk : k ≤ 1000)
    (hc : ∀ j u, news[j]? = some u → w.cell? (q.add j) = some u) (h1 : ∀ u ∈ news, u.oneCell' = true)
    (h : ∀ v' w', w'.ownsRow base E n v' (m + k) (xs ++ news) → w.grownBy w' v.ownBlock → wpList P ops Q rest (a.put o.dst v') w') : wpList P ops Q (o :: rest) a w :=
  wpList_plain hgd fun _ hK => by
    obtain ⟨v', w', h2, h3, h4⟩ := run_appG hT base hbase v m xs ho hx hown hm q k c news hy hl hk hc h1
    unfold Oper.wp
    rw [h2]
    exact hK _ _ (h v' w' h3 h4)
end
theorem flat_len {n : Nat} : ∀ (R : List (List Value)), (∀ x ∈ R, x.length = n) → R.flatten.length = R.length * n
  | [], _ => by simp
  | y :: R, h => by
    rw [List.flatten_cons, List.length_append, h y List.mem_cons_self, flat_len R (fun x hx => h x (List.mem_cons_of_mem _ hx)), List.length_cons, Nat.succ_mul]
    omega
theorem flat_at {n : Nat} : ∀ (R : List (List Value)) (k j : Nat) (x : List Value) (v : Value), (∀ x ∈ R, x.length = n) → R[k]? = some x → x[j]? = some v → R.flatten[k * n + j]? = some v
  | [], k, j, x, v, _, h, _ => by simp at h
  | y :: R, 0, j, x, v, hl, h, hv => by
    simp only [List.getElem?_cons_zero, Option.some.injEq] at h
    subst h
    have hj := (List.getElem?_eq_some_iff.1 hv).1
    rw [List.flatten_cons, Nat.zero_mul, Nat.zero_add, List.getElem?_append_left hj]
    exact hv
  | y :: R, k + 1, j, x, v, hl, h, hv => by
    have hy := hl y List.mem_cons_self
    rw [List.flatten_cons, List.getElem?_append_right (by rw [hy, Nat.succ_mul]; omega), hy, show (k + 1) * n + j - n = k * n + j by rw [Nat.succ_mul]; omega]
    exact flat_at R k j x v (fun x hx => hl x (List.mem_cons_of_mem _ hx)) (by simpa using h) hv
/-- a row that a call made, as one that lies there -/
theorem own_els {w : World} {base : Nat} {E : TypeId} {n k c : Nat} {p : Option Addr} {R : List (List Value)} (hl : ∀ x ∈ R, x.length = n) (h : w.ownsRow base E n (.slice p k c) R.length R.flatten) (hb : R.length ≤ 140737488351232) :
    Els w p n R ∧ k = R.length ∧ k ≤ c ∧ (∀ a, p = some a → base ≤ a.block ∧ a.block < w.heap.size ∧ a.spot = none) := by
  rcases h.2 with ⟨hv, h0⟩ | ⟨g, cap, cur, hv, hg, hw, hk, hm, hs, ht⟩
  · cases hv
    have hR : R = [] := List.length_eq_zero_iff.1 h0
    subst hR
    exact ⟨⟨(fun _ => rfl), hl, hb, (fun a ha => by cases ha)⟩, rfl, Nat.le_refl _, fun a ha => by cases ha⟩
  · cases hv
    refine ⟨⟨(fun e => by cases e), hl, hb, (fun a ha i x j v hi hj => ?_)⟩, rfl, hk, fun a ha => by cases ha; exact ⟨hg, (Array.getElem?_eq_some_iff.1 hw).1, rfl⟩⟩
    cases ha
    exact h.cells rfl _ v (flat_at R i j x v hl hi hj)
end Go.Proofs.Ytpbmeeogledmdae
namespace Go.Proofs.Ytpbmeeogledmdae
open Go.RowKit

theorem flat_inv {n : Nat} : ∀ (R : List (List Value)) (j : Nat) (u : Value), (∀ x ∈ R, x.length = n) → R.flatten[j]? = some u → ∃ k x r, R[k]? = some x ∧ x[r]? = some u ∧ j = k * n + r
  | [], j, u, _, h => by simp at h
  | y :: R, j, u, hl, h => by
    have hy := hl y List.mem_cons_self
    rw [List.flatten_cons] at h
    by_cases hj : j < y.length
    · rw [List.getElem?_append_left hj] at h
      exact ⟨0, y, j, rfl, h, by omega⟩
    · rw [List.getElem?_append_right (by omega)] at h
      obtain ⟨k, x, r, h1, h2, h3⟩ := flat_inv R _ u (fun x hx => hl x (List.mem_cons_of_mem _ hx)) h
      exact ⟨k + 1, x, r, by simpa using h1, h2, by rw [Nat.succ_mul]; omega⟩
section
variable {w : World} {p : Option Addr} {n : Nat} {R : List (List Value)}
theorem Els.flat (h : Els w p n R) {a : Addr} (ha : p = some a) : ∀ j u, R.flatten[j]? = some u → w.cell? (a.add j) = some u := by
  intro j u hu
  obtain ⟨k, x, r, h1, h2, rfl⟩ := flat_inv R j u h.len hu
  exact h.cells a ha k x r u h1 h2
/-- a part of a row: l[i:j], m the capacity's bound -/
theorem els_slice (h : Els w p n R) {i j m : Nat} (hij : i ≤ j) (hm : j ≤ m) : Els w (if m = i then p else p.map (·.add (i * n))) n ((R.drop i).take (j - i)) := by
  have hl : ∀ x ∈ (R.drop i).take (j - i), x.length = n := fun x hx => h.len x (List.mem_of_mem_drop (List.mem_of_mem_take hx))
  have hb : ((R.drop i).take (j - i)).length ≤ 140737488351232 := by have := h.big; simp; omega
  by_cases e : m = i
  · rw [if_pos e]
    obtain rfl : j = i := by omega
    rw [Nat.sub_self, List.take_zero]
    exact ⟨fun _ => rfl, fun x hx => (by cases hx), by simp, fun a ha k x j v hk _ => by simp at hk⟩
  · rw [if_neg e]
    refine ⟨fun hn => ?_, hl, hb, fun a ha k x r v hk hr => ?_⟩
    · rw [Option.map_eq_none_iff] at hn
      rw [h.nil hn]; simp
    · obtain ⟨a0, ha0, rfl⟩ := Option.map_eq_some_iff.1 ha
      rw [addr_add_add, ← Nat.add_assoc, ← Nat.add_mul]
      refine h.cells a0 ha0 (i + k) x r v ?_ hr
      rw [List.getElem?_take] at hk
      split at hk
      · rwa [List.getElem?_drop] at hk
      · cases hk
end
theorem run_append_nil {P : Program} (w : World) (t ty e : TypeId) (i : TypeInfo) (ht : P.underlying t = some (.slice e)) (hi : P.info? e = some i) (base : Option Addr) (n cap c : Nat) (h : n ≤ cap) :
    (Builtin.append_ #[t, t] ty #[.slice base n cap, .slice none 0 c]).run P w = .ok (.slice base n cap) w := by
  cases base <;> simp [Builtin.append_, run_underlying ht, sizeOf, typeInfo, hi, Builtin.lenOf, h, Builtin.firstCells, storeCells]
section
variable {P : Program} {T E : TypeId} {n b : Nat}
/-- append(own, l...), l a row that lies there -/
theorem wpList_appE (hT : ElT P T E n b) {ops : Array Oper} {rest : List Oper} {o : Oper} {a : Act} {w : World} {Q : Exit → Act → World → Prop} (hgd : o.guard = none) (x y : Operand) (ho : o.op = .call { callee := .builtin .append, args := #[x, y], argTypes := #[T, T] })
    (base : Nat) (hbase : base ≤ w.heap.size) (v : Value) (m : Nat) (xs : List Value) (hx : a.eval x = v) (hown : w.ownsRow base E n v m xs) (hm : m ≤ 100000) (q : Option Addr) (k c : Nat) (R : List (List Value)) (hy : a.eval y = .slice q k c) (hE : Els w q n R) (hk : k = R.length) (hk1 : k ≤ 1000)
    (h1 : ∀ x ∈ R, ∀ u ∈ x, u.oneCell' = true)
    (h : ∀ v' w', w'.ownsRow base E n v' (m + k) (xs ++ R.flatten) → w.grownBy w' v.ownBlock → wpList P ops Q rest (a.put o.dst v') w') : wpList P ops Q (o :: rest) a w := by
  cases q with
  | some q =>
    refine wpList_appG hT hgd x y ho base hbase v m xs hx hown hm q k c R.flatten hy (by rw [flat_len R hE.len, hk]) hk1 (hE.flat rfl) (fun u hu => ?_) h
    obtain ⟨z, hz, hu⟩ := List.mem_flatten.1 hu
    exact h1 z hz u hu
  | none =>
    obtain rfl := hE.nil rfl
    obtain rfl : k = 0 := hk
    obtain ⟨ht, e1, _⟩ := hT
    obtain ⟨i, hi⟩ : ∃ i, P.info? E = some i := by
      cases h : P.info? E with
      | none => rw [h] at e1; cases e1
      | some i => exact ⟨i, rfl⟩
    obtain ⟨p, d, hv, hd⟩ : ∃ p d, v = .slice p m d ∧ m ≤ d := by
      rcases hown.2 with ⟨hv, h0⟩ | ⟨g, cap, cur, hv, _, _, hk, _⟩
      · exact ⟨none, 0, by rw [hv, h0], by omega⟩
      · exact ⟨_, _, hv, hk⟩
    refine wpList_plain hgd fun _ hK => ?_
    unfold Oper.wp execOp
    simp only [ho, resolve, invoke, builtin, Sem.run_bind, Sem.run_pure, Result.andThen_ok, List.map_toArray, List.map_cons, List.map_nil, hx, hy, hv, run_append_nil w T o.type E i ht hi p m d c hd]
    refine hK _ _ (hv ▸ h v w (by simpa using hown) ⟨rfl, rfl, rfl, Nat.le_refl _, fun _ _ _ => rfl⟩)
/-- append(l[:i:i], one), l a row that lies there -/
theorem wpList_appF (hT : ElT P T E n b) {ops : Array Oper} {rest : List Oper} {o : Oper} {a : Act} {w : World} {Q : Exit → Act → World → Prop} (hgd : o.guard = none) (x y : Operand) (ho : o.op = .call { callee := .builtin .append, args := #[x, y], argTypes := #[T, T] })
    (p : Option Addr) (m : Nat) (R : List (List Value)) (hx : a.eval x = .slice p m m) (hE : Els w p n R) (hmR : m = R.length) (hm : m ≤ 100000) (q : Addr) (c : Nat) (news : List Value) (hy : a.eval y = .slice (some q) 1 c) (hl : news.length = n)
    (hc : ∀ j u, news[j]? = some u → w.cell? (q.add j) = some u) (h1 : ∀ u ∈ news, u.oneCell' = true)
    (h : ∀ v' w', w'.ownsRow w.heap.size E n v' (m + 1) (R.flatten ++ news) → w.grownBy w' none → wpList P ops Q rest (a.put o.dst v') w') : wpList P ops Q (o :: rest) a w := by
  obtain ⟨ht, e1, e2, e3, hp, hb⟩ := hT
  obtain ⟨i, hi⟩ : ∃ i, P.info? E = some i := by
    cases h : P.info? E with
    | none => rw [h] at e1; cases e1
    | some i => exact ⟨i, rfl⟩
  rw [hi] at e1 e2 e3
  simp only [Option.map_some, Option.some.injEq, Option.bind_some] at e1 e2 e3
  obtain ⟨z, hzz⟩ : ∃ z, i.zero = some z := by
    cases hz : i.zero with
    | none => rw [hz] at e3; cases e3
    | some z => exact ⟨z, rfl⟩
  rw [hzz] at e3
  simp only [Option.map_some, Option.some.injEq] at e3
  have hbb : (m + 1) * b ≤ 100001 * 1000 := Nat.mul_le_mul (by omega) hb
  refine wpList_append_grows w hgd x y T ho E i z n b ht hi hzz e1 e2 e3 hp p m m R.flatten hx (fun e => ?_) (by rw [flat_len R hE.len, hmR]) (fun b hb => hE.flat hb) q 1 c news hy (by omega) hc h1 (by omega) (by unfold maxLen; omega) (by omega) h
  rw [hE.nil e] at hmR
  exact ⟨hmR, hmR⟩
end
theorem add0 (g n : Nat) : (⟨g, 0, none⟩ : Addr).add n = ⟨g, n, none⟩ := by unfold Addr.add; split <;> simp_all
end Go.Proofs.Ytpbmeeogledmdae
