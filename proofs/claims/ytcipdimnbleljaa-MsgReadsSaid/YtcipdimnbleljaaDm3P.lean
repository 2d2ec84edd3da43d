/-
  The document's side of layer 18: a draft's marks, as a plain value, and a row of marks that the call made.
  Single operations, each under what it asks: for regions that draw their order.
-/
import Derived.Test.YtcipdimnbleljaaDmQ
import Derived.Test.YtcipdimnbleljaaMay0
import Derived.Laws.AppendOwn
import Derived.Below
import Derived.Test.YtcipdimnbleljaaTell
namespace Go.Proofs.Ytcipdimnbleljaa
open Go.RowKit
open Extern.Stop (cell)

theorem msD_succ (d : DV) (k : Nat) : msD d (k + 1) = msD d k ++ (if onD d k then [((k : Int), dgU d.bs k)] else []) := by
  unfold msD
  rw [List.range_succ, List.filter_append, List.map_append]
  congr 1
  by_cases h : onD d k = true
  · simp [h]
  · simp [h]
theorem msD_len (d : DV) (k : Nat) : (msD d k).length ≤ k := by
  unfold msD
  rw [List.length_map]
  exact Nat.le_trans (List.length_filter_le _ _) (by simp)
theorem msD_digest (d : DV) (k : Nat) : ∀ x ∈ msD d k, x.2.length = 32 := by
  intro x hx
  unfold msD at hx
  rw [List.mem_map] at hx
  obtain ⟨c, _, rfl⟩ := hx
  exact dgU_length _ _
theorem mkCells_append (a b : List (Int × List UInt8)) : mkCells (a ++ b) = mkCells a ++ mkCells b := by
  induction a with
  | nil => rfl
  | cons x r ih => show markRow x ++ mkCells (r ++ b) = markRow x ++ mkCells r ++ mkCells b; rw [ih, List.append_assoc]
theorem mks_of_own {w : World} {base : Nat} {e : TypeId} {v : Value} {n : Nat} {ms : List (Int × List UInt8)} (h : w.ownsRow base e 33 v n (mkCells ms)) (hd : ∀ x ∈ ms, x.2.length = 32) (hb : ms.length ≤ 9223372036854775807) :
    ∃ p cap, v = .slice p ms.length cap ∧ MksAt w p ms ∧ ∀ a, p = some a → base ≤ a.block := by
  obtain ⟨hl, h⟩ := h
  rw [mkCells_length ms hd] at hl
  have hn : n = ms.length := by omega
  subst hn
  rcases h with ⟨hv, h0⟩ | ⟨g, cap, cur, hv, hg, hB, hc, hm, hs, hx⟩
  · have hms : ms = [] := List.length_eq_zero_iff.1 h0
    subst hms
    exact ⟨none, 0, hv, ⟨fun _ => rfl, (fun x hx => by cases hx), by show 0 ≤ _; omega, (fun a ha => by cases ha)⟩, (fun a ha => by cases ha)⟩
  · refine ⟨some ⟨g, 0, none⟩, cap, hv, ⟨(fun hp => by cases hp), hd, hb, ?_⟩, ?_⟩
    · intro a ha j u hj
      cases ha
      have e1 : (⟨g, 0, none⟩ : Addr).add j = ⟨g, j, none⟩ := by unfold Addr.add; split <;> simp_all
      rw [e1]
      have hlt := (List.getElem?_eq_some_iff.1 hj).1
      rw [mkCells_length ms hd] at hlt
      have hB' : Blk w g cur e := hB
      refine hB'.cell ?_
      rw [← hx, List.getElem?_take_of_lt hlt, Array.getElem?_toList] at hj
      exact hj
    · intro a ha
      cases ha
      exact hg
/-! Single operations of the round that appends a mark. -/
theorem list32 (l : List Value) (h : l.length = 32) : ∃ a0 a1 a2 a3 a4 a5 a6 a7 a8 a9 a10 a11 a12 a13 a14 a15 a16 a17 a18 a19 a20 a21 a22 a23 a24 a25 a26 a27 a28 a29 a30 a31, l = [a0, a1, a2, a3, a4, a5, a6, a7, a8, a9, a10, a11, a12, a13, a14, a15, a16, a17, a18, a19, a20, a21, a22, a23, a24, a25, a26, a27, a28, a29, a30, a31] := by
  refine ⟨l[0], l[1], l[2], l[3], l[4], l[5], l[6], l[7], l[8], l[9], l[10], l[11], l[12], l[13], l[14], l[15], l[16], l[17], l[18], l[19], l[20], l[21], l[22], l[23], l[24], l[25], l[26], l[27], l[28], l[29], l[30], l[31], ?_⟩
  apply List.ext_getElem
  · exact h
  · intro i h1 h2
    rw [h] at h1
    have : i = 0 ∨ i = 1 ∨ i = 2 ∨ i = 3 ∨ i = 4 ∨ i = 5 ∨ i = 6 ∨ i = 7 ∨ i = 8 ∨ i = 9 ∨ i = 10 ∨ i = 11 ∨ i = 12 ∨ i = 13 ∨ i = 14 ∨ i = 15 ∨ i = 16 ∨ i = 17 ∨ i = 18 ∨ i = 19 ∨ i = 20 ∨ i = 21 ∨ i = 22 ∨ i = 23 ∨ i = 24 ∨ i = 25 ∨ i = 26 ∨ i = 27 ∨ i = 28 ∨ i = 29 ∨ i = 30 ∨ i = 31 := by omega
    rcases this with rfl | rfl | rfl | rfl | rfl | rfl | rfl | rfl | rfl | rfl | rfl | rfl | rfl | rfl | rfl | rfl | rfl | rfl | rfl | rfl | rfl | rfl | rfl | rfl | rfl | rfl | rfl | rfl | rfl | rfl | rfl | rfl <;> rfl
def markA (k : Int) (R : Array Value) : Array Value := (.int .i64 k :: R.toList).toArray
theorem markA_size (k : Int) (R : Array Value) (h : R.size = 32) : (markA k R).size = 33 := by simp [markA, h]
set_option maxRecDepth 100000 in
theorem run_mark (k : Int) (R : Array Value) (h : R.size = 32) (w : World) : (Instr.build 65 #[(0, .int .i64 k), (1, .agg R)]).run Try.prog w = .ok (.agg (markA k R)) w := by
  obtain ⟨l⟩ := R
  obtain ⟨a0, a1, a2, a3, a4, a5, a6, a7, a8, a9, a10, a11, a12, a13, a14, a15, a16, a17, a18, a19, a20, a21, a22, a23, a24, a25, a26, a27, a28, a29, a30, a31, rfl⟩ := list32 l (by simpa using h)
  kernel_rfl
set_option maxRecDepth 100000 in
theorem run_marks (k : Int) (R : Array Value) (h : R.size = 32) (w : World) : (Instr.buildSlice 38 1 #[(0, .agg (markA k R))]).run Try.prog w = .ok (.slice (some ⟨w.heap.size, 0, none⟩) 1 1) (w.alloc (.cells (markA k R) 65)) := by
  obtain ⟨l⟩ := R
  obtain ⟨a0, a1, a2, a3, a4, a5, a6, a7, a8, a9, a10, a11, a12, a13, a14, a15, a16, a17, a18, a19, a20, a21, a22, a23, a24, a25, a26, a27, a28, a29, a30, a31, rfl⟩ := list32 l (by simpa using h)
  kernel_rfl
theorem own_below {w w' : World} {base : Nat} {e : TypeId} {size : Nat} {v : Value} {n : Nat} {xs : List Value} (h : w.ownsRow base e size v n xs) (hb : Below w.heap.size w w') : w'.ownsRow base e size v n xs := by
  refine ⟨h.1, ?_⟩
  rcases h.2 with hn | ⟨g, cap, cur, rfl, hb', hgg, rest⟩
  · exact .inl hn
  · have hB : Blk w g cur e := hgg
    exact .inr ⟨g, cap, cur, rfl, hb', hB.mod ((Mod.refl (fun _ => False) _).after hb) (fun h => h), rest⟩
theorem run_buildM {ρ : Operand → Value} {o : Oper} {w : World} {x y : Operand} {k : Int} {R : Array Value} (ho : o.op = .build 65 #[(0, x), (1, y)]) (hx : ρ x = .int .i64 k) (hy : ρ y = .agg R) (h : R.size = 32) :
    (execOp ρ o).run Try.prog w = .ok (.value (.agg (markA k R))) w := by
  unfold execOp
  simp only [ho, hx, hy, List.map_toArray, List.map_cons, List.map_nil, Sem.run_bind, run_mark k R h, Sem.run_pure, Result.andThen_ok]
theorem run_sliceM {ρ : Operand → Value} {o : Oper} {w : World} {x : Operand} {k : Int} {R : Array Value} (ho : o.op = .buildSlice 38 1 #[(0, x)]) (hx : ρ x = .agg (markA k R)) (h : R.size = 32) :
    (execOp ρ o).run Try.prog w = .ok (.value (.slice (some ⟨w.heap.size, 0, none⟩) 1 1)) (w.alloc (.cells (markA k R) 65)) := by
  unfold execOp
  simp only [ho, hx, List.map_toArray, List.map_cons, List.map_nil, Sem.run_bind, run_marks k R h, Sem.run_pure, Result.andThen_ok]
theorem run_appM {ρ : Operand → Value} {o : Oper} {w : World} {x y : Operand} (base : Nat) (hbase : base ≤ w.heap.size) (v : Value) (n : Nat) (xs : List Value) (ho : o.op = .call { callee := .builtin .append, args := #[x, y], argTypes := #[38, 38] })
    (hx : ρ x = v) (hown : w.ownsRow base 65 33 v n xs) (hn : n ≤ 1000) (g : Nat) (MR : Array Value) (hy : ρ y = .slice (some ⟨g, 0, none⟩) 1 1) (hB : Blk w g MR 65) (hs : MR.size = 33) (h1 : ∀ u ∈ MR.toList, u.oneCell' = true) :
    ∃ v' w', (execOp ρ o).run Try.prog w = .ok (.value v') w' ∧ w'.ownsRow base 65 33 v' (n + 1) (xs ++ MR.toList) ∧ w.grownBy w' v.ownBlock := by
  have e1 : (Try.prog.info? 65).map (·.size) = some 33 := by kernel_rfl
  have e2 : (Try.prog.info? 65).map (·.bytes) = some 40 := by kernel_rfl
  have e3 : ((Try.prog.info? 65).bind (·.zero)).map (·.cells.size) = some 33 := by kernel_rfl
  obtain ⟨i, hi⟩ : ∃ i, Try.prog.info? 65 = some i := Option.isSome_iff_exists.1 (by kernel_rfl)
  rw [hi] at e1 e2 e3
  simp only [Option.map_some, Option.some.injEq, Option.bind_some] at e1 e2 e3
  obtain ⟨z, hzz⟩ : ∃ z, i.zero = some z := by
    cases hz : i.zero with
    | none => rw [hz] at e3; cases e3
    | some z => exact ⟨z, rfl⟩
  rw [hzz] at e3
  simp only [Option.map_some, Option.some.injEq] at e3
  obtain ⟨v', w', h2, h3, h4, _⟩ := run_append_own (P := Try.prog) w base 38 o.type 65 i z 33 40 Try.underlying38 hi hzz e1 e2 e3 (by omega) v n xs hown ⟨g, 0, none⟩ 1 1 MR.toList (by simpa using hs)
    (fun j u hj => by
      rw [Array.getElem?_toList] at hj
      have e1 : (⟨g, 0, none⟩ : Addr).add j = ⟨g, j, none⟩ := by unfold Addr.add; split <;> simp_all
      rw [e1]
      exact hB.cell hj) h1 (by unfold maxLen; omega) (by omega) hbase
  refine ⟨v', w', ?_, h3, h4⟩
  unfold execOp
  simp only [ho, resolve, invoke, builtin, Sem.run_bind, Sem.run_pure, Result.andThen_ok, List.map_toArray, List.map_cons, List.map_nil, hx, hy, h2]
theorem upon_appM {ρ : Operand → Value} {o : Oper} {w : World} {x y : Operand} {R : Value → World → Prop} (base : Nat) (hbase : base ≤ w.heap.size) (v : Value) (n : Nat) (xs : List Value) (ho : o.op = .call { callee := .builtin .append, args := #[x, y], argTypes := #[38, 38] })
    (hx : ρ x = v) (hown : w.ownsRow base 65 33 v n xs) (hn : n ≤ 1000) (g : Nat) (MR : Array Value) (hy : ρ y = .slice (some ⟨g, 0, none⟩) 1 1) (hB : Blk w g MR 65) (hs : MR.size = 33) (h1 : ∀ u ∈ MR.toList, u.oneCell' = true)
    (h : ∀ v' w', w'.ownsRow base 65 33 v' (n + 1) (xs ++ MR.toList) → w.grownBy w' v.ownBlock → R v' w') : upon2 Try.prog R ((execOp ρ o).run Try.prog w) := by
  obtain ⟨v', w', h2, h3, h4⟩ := run_appM base hbase v n xs ho hx hown hn g MR hy hB hs h1
  rw [h2]
  exact h v' w' h3 h4
theorem run_mov3 {ρ : Operand → Value} {o : Oper} {w : World} {x : Operand} {v : Value} (ho : o.op = .move x) (hx : ρ x = v) : (execOp ρ o).run Try.prog w = .ok (.value v) w := by
  unfold execOp; simp only [ho, hx, Sem.run_pure]
structure ClK (C NR M0 MR : Array Value) (w : World) (mb : Nat) (v : Value) (n : Nat) (xs : List Value) (x : Nat × Value) (s : Nat) (w' : World) : Prop where
  m : Blk w' mb (M0.setIfInBounds 47 (if s = 3 then x.2 else v)) 42
  b : Blk w' w.heap.size C 28
  z : Blk w' (w.heap.size + 1) zero53 42
  nr : Blk w' (w.heap.size + 2) NR 23
  low : Below w.heap.size w w'
  own : s ≤ 1 → w'.ownsRow (mb + 1) 65 33 v n xs
  row : s = 1 → Blk w' x.1 MR 65
  own2 : 2 ≤ s → w'.ownsRow (mb + 1) 65 33 x.2 (n + 1) (xs ++ MR.toList)
section
variable {C NR M0 MR : Array Value} {w : World} {mb : Nat} {v : Value} {n : Nat} {xs : List Value} {x : Nat × Value} {s : Nat} {w' : World}
theorem ClK.below {w'' : World} (h : ClK C NR M0 MR w mb v n xs x s w') (hb : Below w'.heap.size w' w'') : ClK C NR M0 MR w mb v n xs x s w'' :=
  have hm := (Mod.refl (fun _ => False) w').after hb
  ⟨h.m.mod hm (fun h => h), h.b.mod hm (fun h => h), h.z.mod hm (fun h => h), h.nr.mod hm (fun h => h), h.low.trans (hb.mono h.low.size), fun g => own_below (h.own g) hb, fun g => (h.row g).mod hm (fun h => h), fun g => own_below (h.own2 g) hb⟩
theorem ClK.made (h : ClK C NR M0 MR w mb v n xs x 0 w') : ClK C NR M0 MR w mb v n xs (w'.heap.size, x.2) 1 (w'.alloc (.cells MR 65)) :=
  ⟨h.m.alloc _, h.b.alloc _, h.z.alloc _, h.nr.alloc _, h.low.alloc h.low.size _, fun _ => (h.own (by omega)).alloc _, fun _ => Blk.new _ _ _, fun g => by omega⟩
theorem blk_grown {w w' : World} {row : Option Nat} {b : Nat} {C : Array Value} {t : TypeId} (h : Blk w b C t) (hg : w.grownBy w' row) (hne : some b ≠ row) : Blk w' b C t := (hg.block b h.lt hne).trans h
theorem ClK.appended {v' : Value} {w'' : World} (h : ClK C NR M0 MR w mb v n xs x 1 w') (h2 : w''.ownsRow (mb + 1) 65 33 v' (n + 1) (xs ++ MR.toList)) (h3 : w'.grownBy w'' v.ownBlock) (hmb : w.heap.size + 3 ≤ mb) :
    ClK C NR M0 MR w mb v n xs (x.1, v') 2 w'' := by
  have hlt := (h.own (by omega)).lt
  have hne : ∀ b, b ≤ mb → some b ≠ v.ownBlock := fun b hb e => by have := hlt b e.symm; omega
  refine ⟨?_, blk_grown h.b h3 (hne _ (by omega)), blk_grown h.z h3 (hne _ (by omega)), blk_grown h.nr h3 (hne _ (by omega)), ?_, (fun g => by omega), (fun g => by omega), fun _ => h2⟩
  · exact blk_grown h.m h3 (hne _ (Nat.le_refl _))
  · have hm : Mod (fun k => w.heap.size ≤ k) w' w'' := (Mod.refl _ _).grown h3 (fun k hk _ => by have := hlt k hk; omega)
    exact h.low.trans (hm.below h.low.size (fun _ g => g))
theorem ClK.stored (h : ClK C NR M0 MR w mb v n xs x 2 w') (hmb : w.heap.size + 3 ≤ mb) : ClK C NR M0 MR w mb v n xs x 3 (w'.setCell ⟨mb, 47, none⟩ x.2) := by
  refine ⟨?_, h.b.other (by show w.heap.size ≠ mb; omega) _, h.z.other (by show w.heap.size + 1 ≠ mb; omega) _, h.nr.other (by show w.heap.size + 2 ≠ mb; omega) _, h.low.setCell (by show w.heap.size ≤ mb; omega) _, (fun g => by omega), (fun g => by omega), fun _ => ownsRow_setCell_below (h.own2 (by omega)) (by show mb < mb + 1; omega) _⟩
  have := h.m.set 47 x.2
  rw [if_neg (by omega)] at this
  rw [if_pos rfl]
  rwa [show (M0.setIfInBounds 47 v).setIfInBounds 47 x.2 = M0.setIfInBounds 47 x.2 by apply Array.ext_getElem?; intro i; simp only [Array.getElem?_setIfInBounds, Array.size_setIfInBounds]; split <;> rfl] at this
end
theorem run_sl38 {w : World} {a : Addr} {p : Option Addr} {n c : Nat} (hc : w.cell? a = some (.slice p n c)) : (loadVar 38 a).run Try.prog w = .ok (.slice p n c) w := by go_simp
theorem run_store38 {ρ : Operand → Value} {o : Oper} {w : World} {x y : Operand} {a : Addr} {p : Option Addr} {n c : Nat} {u : Value} (ho : o.op = .store 38 x y) (hx : ρ x = .pointer (some a)) (hy : ρ y = .slice p n c) (hc : w.cell? a = some u) (hf : w.frozen? a = false) :
    (execOp ρ o).run Try.prog w = .ok .skip (w.setCell a (.slice p n c)) := by
  unfold execOp
  simp only [ho, hx, hy]
  go_simp
theorem run_calldk {ρ : Operand → Value} {o : Oper} {w : World} {x y : Operand} {C : Array Value} {k : Int} (ho : o.op = .call { callee := .value (.func 22), args := #[x, y], argTypes := #[28, 3] }) (hx : ρ x = .agg C) (hy : ρ y = .int .i64 k)
    (hf : ρ (.func 22) = .func (.func 22) #[] #[]) :
    (execOp ρ o).run Try.prog w = .ok (.enter 22 #[.agg C, .int .i64 k]) w := by
  unfold execOp
  simp only [ho]
  go_simp
end Go.Proofs.Ytcipdimnbleljaa
namespace Go.Proofs.Ytcipdimnbleljaa
open Go.RowKit
open Extern.Stop (cell)
section
variable {ρ : Operand → Value} {o : Oper} {w : World} {x y : Operand}
theorem run_mov {v : Value} (ho : o.op = .move x) (hx : ρ x = v) : (execOp ρ o).run Try.prog w = .ok (.value v) w := by
  unfold execOp; simp only [ho, hx, Sem.run_pure]
theorem run_asg {v : Value} (ho : o.op = .assign x) (hx : ρ x = v) : (execOp ρ o).run Try.prog w = .ok (.value v) w := by
  unfold execOp; simp only [ho, hx, Sem.run_pure]
theorem run_lenS {s : ByteArray} (ho : o.op = .call { callee := .builtin .len, args := #[x], argTypes := #[9] }) (hx : ρ x = .string s) :
    (execOp ρ o).run Try.prog w = .ok (.value (.int .i64 s.size)) w := by
  unfold execOp
  simp only [ho]
  go_simp
theorem run_lenL {p : Option Addr} {n c : Nat} (ho : o.op = .call { callee := .builtin .len, args := #[x], argTypes := #[38] }) (hx : ρ x = .slice p n c) :
    (execOp ρ o).run Try.prog w = .ok (.value (.int .i64 n)) w := by
  unfold execOp
  simp only [ho]
  go_simp
theorem run_muli {m n : Int} (ho : o.op = .binOp .mul 3 x y 3) (hx : ρ x = .int .i64 m) (hy : ρ y = .int .i64 n) (hb : -9223372036854775808 ≤ m * n ∧ m * n ≤ 9223372036854775807) :
    (execOp ρ o).run Try.prog w = .ok (.value (.int .i64 (m * n))) w := by
  have h4 : wrap64 (m * n) = m * n := IntWalk.wrap64_in _ hb
  have h5 : IntKind.i64.wrap (m * n) = m * n := IntWalk.i64_in _ hb
  unfold execOp
  simp only [ho, hx, hy]
  go_simp
theorem run_subi {m n : Int} (ho : o.op = .binOp .sub 3 x y 3) (hx : ρ x = .int .i64 m) (hy : ρ y = .int .i64 n) (hb : -9223372036854775808 ≤ m - n ∧ m - n ≤ 9223372036854775807) :
    (execOp ρ o).run Try.prog w = .ok (.value (.int .i64 (m - n))) w := by
  have h4 : wrap64 (m - n) = m - n := IntWalk.wrap64_in _ hb
  have h5 : IntKind.i64.wrap (m - n) = m - n := IntWalk.i64_in _ hb
  unfold execOp
  simp only [ho, hx, hy]
  go_simp
theorem run_eqli {m n : Int} (ho : o.op = .binOp .eql 3 x y 3) (hx : ρ x = .int .i64 m) (hy : ρ y = .int .i64 n) :
    (execOp ρ o).run Try.prog w = .ok (.value (.bool (m == n))) w := by
  unfold execOp
  simp only [ho, hx, hy]
  go_simp
theorem run_marksOf {C : Array Value} {m : MV} (hM : MsgOf C m) (ho : o.op = .field 42 x 7) (hx : ρ x = .agg C) :
    (execOp ρ o).run Try.prog w = .ok (.value (.slice m.p m.ms.length m.cap)) w := by
  have h1 := hM.size
  have h2 := hM.h47
  have h3 : 47 < C.size := by omega
  unfold execOp
  simp only [ho, hx]
  have e : (Instr.field 42 (.agg C) 7).run Try.prog w = .ok (.slice m.p m.ms.length m.cap) w := by
    unfold Instr.field
    simp only [Sem.run_bind, run_underlying Try.underlying42, Result.andThen_ok]
    simp [part, isAgg, asAgg, run_underlying Try.underlying38, h2]
  rw [Sem.run_bind, e]
  rfl
end
theorem sk {R : Value → World → Prop} {f : FuncId} {args : Array Value} {P : Program} {r : Result Next} {w : World} (h : r = .ok (.enter f args) w) (hC : Calls P f args w fun e w'' => ∃ v, e = .returned v ∧ R v w'') : upon2 P R r := by rw [h]; exact hC
end Go.Proofs.Ytcipdimnbleljaa
