/-
  The document's side of layer 18: Turned, the row of marks; any of it.
-/
import Derived.Test.YtcipdimnbleljaaRfI
namespace Go.Proofs.Ytcipdimnbleljaa
open Go.RowKit
open Extern.Stop (cell)

theorem run_appMs {ρ : Operand → Value} {o : Oper} {w : World} {x y : Operand} (base : Nat) (hbase : base ≤ w.heap.size) (v : Value) (n : Nat) (xs : List Value) (ho : o.op = .call { callee := .builtin .append, args := #[x, y], argTypes := #[38, 38] })
    (hx : ρ x = v) (hown : w.ownsRow base 65 33 v n xs) (hn : n ≤ 1000) (a : Addr) (k c : Nat) (news : List Value) (hy : ρ y = .slice (some a) k c) (hl : news.length = k * 33) (hk : k ≤ 1000) (hc : ∀ j u, news[j]? = some u → w.cell? (a.add j) = some u) (h1 : ∀ u ∈ news, u.oneCell' = true) :
    ∃ v' w', (execOp ρ o).run Try.prog w = .ok (.value v') w' ∧ w'.ownsRow base 65 33 v' (n + k) (xs ++ news) ∧ w.grownBy w' v.ownBlock := by
  have e1 : (Try.prog.info? 65).map (·.size) = some 33 := by kernel_rfl
  have e2 : (Try.prog.info? 65).map (·.bytes) = some 40 := by kernel_rfl
  have e3 : ((Try.prog.info? 65).bind (·.zero)).map (·.cells.size) = some 33 := by kernel_rfl
  obtain ⟨i, hi⟩ : ∃ i, Try.prog.info? 65 = some i := Option.isSome_iff_exists.1 (by kernel_rfl)
  rw [hi] at e1 e2 e3
  simp only [Option.map_some, Option.some.injEq, Option.bind_some] at e1 e2 e3
  obtain ⟨z, hzz⟩ : ∃ z, i.zero = some z := by
    cases hz : i.zero with
    | none => rw [hz] at e3; cases e3
    | some z => exact ⟨z, rfl⟩
  rw [hzz] at e3
  simp only [Option.map_some, Option.some.injEq] at e3
  obtain ⟨v', w', h2, h3, h4, _⟩ := run_append_own (P := Try.prog) w base 38 o.type 65 i z 33 40 Try.underlying38 hi hzz e1 e2 e3 (by omega) v n xs hown a k c news hl hc h1 (by unfold maxLen; omega) (by omega) hbase
  refine ⟨v', w', ?_, h3, h4⟩
  unfold execOp
  simp only [ho, resolve, invoke, builtin, Sem.run_bind, Sem.run_pure, Result.andThen_ok, List.map_toArray, List.map_cons, List.map_nil, hx, hy, h2]
theorem wpList_appMs {ops : Array Oper} {rest : List Oper} {o : Oper} {a : Act} {w : World} {Q : Exit → Act → World → Prop} (hgd : o.guard = none) (x y : Operand) (ho : o.op = .call { callee := .builtin .append, args := #[x, y], argTypes := #[38, 38] })
    (base : Nat) (hbase : base ≤ w.heap.size) (v : Value) (n : Nat) (xs : List Value) (hx : a.eval x = v) (hown : w.ownsRow base 65 33 v n xs) (hn : n ≤ 1000) (q : Addr) (k c : Nat) (news : List Value) (hy : a.eval y = .slice (some q) k c) (hl : news.length = k * 33) (hk : k ≤ 1000)
    (hc : ∀ j u, news[j]? = some u → w.cell? (q.add j) = some u) (h1 : ∀ u ∈ news, u.oneCell' = true)
    (h : ∀ v' w', w'.ownsRow base 65 33 v' (n + k) (xs ++ news) → w.grownBy w' v.ownBlock → wpList Try.prog ops Q rest (a.put o.dst v') w') : wpList Try.prog ops Q (o :: rest) a w :=
  wpList_plain hgd fun _ hK => by
    obtain ⟨v', w', h2, h3, h4⟩ := run_appMs base hbase v n xs ho hx hown hn q k c news hy hl hk hc h1
    unfold Oper.wp
    rw [h2]
    exact hK _ _ (h v' w' h3 h4)
theorem run_appN {ρ : Operand → Value} {o : Oper} {w : World} {x y : Operand} (g c : Nat) (ho : o.op = .call { callee := .builtin .append, args := #[x, y], argTypes := #[38, 38] })
    (hx : ρ x = .slice (some ⟨g, 0, none⟩) 0 0) (hy : ρ y = .slice none 0 c) : (execOp ρ o).run Try.prog w = .ok (.value (.slice (some ⟨g, 0, none⟩) 0 0)) w := by
  unfold execOp
  simp only [ho, resolve, invoke, builtin, Sem.run_bind, Sem.run_pure, Result.andThen_ok, List.map_toArray, List.map_cons, List.map_nil, hx, hy]
  go_simp
theorem rsl_none (w : World) : (Instr.buildSlice 38 0 #[]).run Try.prog w = .ok (.slice (some ⟨w.heap.size, 0, none⟩) 0 0) (w.alloc (.cells #[] 65)) := by kernel_rfl
theorem rmk_one (n : Int) (w : World) : (Instr.build 65 #[(0, .int .i64 n)]).run Try.prog w = .ok (.agg (markRow (n, dg0)).toArray) w := by kernel_rfl
theorem rsl_one (n : Int) (w : World) : (Instr.buildSlice 38 1 #[(0, .agg (markRow (n, dg0)).toArray)]).run Try.prog w = .ok (.slice (some ⟨w.heap.size, 0, none⟩) 1 1) (w.alloc (.cells (markRow (n, dg0)).toArray 65)) := by kernel_rfl

theorem wpList_bsd {P : Program} {ops : Array Oper} {rest : List Oper} {o : Oper} {a : Act} {w w' : World} {Q : Exit → Act → World → Prop} (hgd : o.guard = none) {t : TypeId} {n : Nat} {vs : Array (Nat × Value)} {v : Value} (hrun : (Instr.buildSlice t n vs).run P w = .ok v w')
    {parts : Array (Nat × Operand)} (ho : o.op = .buildSlice t n parts) (hp : (parts.map fun (i, x) => (i, a.eval x)) = vs) (h : wpList P ops Q rest (a.put o.dst v) w') : wpList P ops Q (o :: rest) a w :=
  wpList_plain hgd fun _ hK => by
    unfold Oper.wp execOp
    simp only [ho, hp, Sem.run_bind, hrun, Sem.run_pure, Result.andThen_ok]
    exact hK _ _ h
theorem set_ms {C : Array Value} {m : MV} (hM : MsgOf C m) (ms : List (Int × List UInt8)) (p : Option Addr) (c : Nat) : MsgOf (C.setIfInBounds 47 (.slice p ms.length c)) { m with ms := ms, p := p, cap := c } :=
  ⟨by rw [Array.size_setIfInBounds]; exact hM.size, (by rw [set_ne (by omega)]; exact hM.h0), (by rw [set_ne (by omega)]; exact hM.h1), (by rw [set_ne (by omega)]; exact hM.h2), (by rw [set_ne (by omega)]; exact hM.h3), (by rw [set_ne (by omega)]; exact hM.h4),
    (fun i hi => by rw [set_ne (by omega)]; exact hM.h5 i hi), (fun i hi => by rw [set_ne (by omega)]; exact hM.h15 i hi), hM.l15, (set_eq (by rw [hM.size]; omega)), (by rw [set_ne (by omega)]; exact hM.h48), (by rw [set_ne (by omega)]; exact hM.h49), (by rw [set_ne (by omega)]; exact hM.h50), (by rw [set_ne (by omega)]; exact hM.h51), (by rw [set_ne (by omega)]; exact hM.h52)⟩
theorem own_spot {w : World} {b : Nat} {e : TypeId} {n k : Nat} {p : Option Addr} {l c : Nat} {xs : List Value} (h : w.ownsRow b e n (.slice p l c) k xs) : ∀ a, p = some a → a.spot = none := by
  intro a ha
  rcases h.2 with ⟨hv, _⟩ | ⟨g, cap, cur, hv, _⟩
  · cases hv; cases ha
  · cases hv; cases ha; rfl
theorem own_isS {w : World} {b : Nat} {e : TypeId} {n : Nat} {v : Value} {k : Nat} {xs : List Value} (h : w.ownsRow b e n v k xs) : ∃ p m c, v = .slice p m c := by
  rcases h.2 with ⟨hv, _⟩ | ⟨g, cap, cur, hv, _⟩
  · exact ⟨_, _, _, hv⟩
  · exact ⟨_, _, _, hv⟩
theorem grown_blk {w w' : World} {b : Nat} {C : Array Value} {t e : TypeId} {v : Value} {k n base : Nat} {xs : List Value} (h : Blk w b C t) (ho : w.ownsRow base e n v k xs) (hb : b < base) (hg : w.grownBy w' v.ownBlock) : Blk w' b C t :=
  blk_grown h hg fun e => by have := ho.lt _ e.symm; omega
theorem grown_low {B : Nat} {w0 w w' : World} {e : TypeId} {v : Value} {k n base : Nat} {xs : List Value} (hb : Below B w0 w) (hB : B ≤ base) (hl : B ≤ w0.heap.size) (ho : w.ownsRow base e n v k xs) (hg : w.grownBy w' v.ownBlock) : Below B w0 w' :=
  hb.trans (((Mod.refl (fun k => B ≤ k) w).grown hg (fun k hk _ => by have := ho.lt k hk; omega)).below (Nat.le_trans hl hb.size) (fun _ g => g))
theorem own_nil {w : World} (base g : Nat) (hg : base ≤ g) (h : Blk w g #[] 65) : w.ownsRow base 65 33 (.slice (some ⟨g, 0, none⟩) 0 0) 0 [] :=
  ⟨rfl, .inr ⟨g, 0, #[], rfl, hg, h, Nat.le_refl _, by unfold maxLen; omega, rfl, rfl⟩⟩

theorem row_cells {w : World} {g : Nat} {R : List Value} {t : TypeId} (h : Blk w g R.toArray t) : ∀ j u, R[j]? = some u → w.cell? ((⟨g, 0, none⟩ : Addr).add j) = some u := by
  intro j u hj
  have e1 : (⟨g, 0, none⟩ : Addr).add j = ⟨g, j, none⟩ := by unfold Addr.add; split <;> simp_all
  rw [e1]
  exact h.cell (by simpa using hj)
theorem mrow_one (n : Int) : ∀ u ∈ markRow (n, dg0), u.oneCell' = true := fun u hu => mkCells_one [(n, dg0)] u (by simpa [mkCells] using hu)
theorem mrow_len (n : Int) : (markRow (n, dg0)).length = 1 * 33 := rfl
end Go.Proofs.Ytcipdimnbleljaa
