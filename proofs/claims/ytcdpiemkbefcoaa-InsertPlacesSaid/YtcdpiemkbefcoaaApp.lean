/-
  Rows that a call makes: append. Of no program.
-/
import Derived.Test.YtcdpiemkbefcoaaEls
import Derived.Laws.AppendOwn
namespace Go.Proofs.Ytcdpiemkbefcoaa
open Go.RowKit

theorem blk_grown {w w' : World} {row : Option Nat} {b : Nat} {C : Array Value} {t : TypeId} (h : Blk w b C t) (hg : w.grownBy w' row) (hne : some b ≠ row) : Blk w' b C t := (hg.block b h.lt hne).trans h
theorem wpList_bsd {P : Program} {ops : Array Oper} {rest : List Oper} {o : Oper} {a : Act} {w w' : World} {Q : Exit → Act → World → Prop} (hgd : o.guard = none) {t : TypeId} {n : Nat} {vs : Array (Nat × Value)} {v : Value} (hrun : (Instr.buildSlice t n vs).run P w = .ok v w')
    {parts : Array (Nat × Operand)} (ho : o.op = .buildSlice t n parts) (hp : (parts.map fun (i, x) => (i, a.eval x)) = vs) (h : wpList P ops Q rest (a.put o.dst v) w') : wpList P ops Q (o :: rest) a w :=
  wpList_plain hgd fun _ hK => by
    unfold Oper.wp execOp
    simp only [ho, hp, Sem.run_bind, hrun, Sem.run_pure, Result.andThen_ok]
    exact hK _ _ h
theorem own_isS {w : World} {b : Nat} {e : TypeId} {n : Nat} {v : Value} {k : Nat} {xs : List Value} (h : w.ownsRow b e n v k xs) : ∃ p m c, v = .slice p m c := by
  rcases h.2 with ⟨hv, _⟩ | ⟨g, cap, cur, hv, _⟩
  · exact ⟨_, _, _, hv⟩
  · exact ⟨_, _, _, hv⟩
theorem grown_blk {w w' : World} {b : Nat} {C : Array Value} {t e : TypeId} {v : Value} {k n base : Nat} {xs : List Value} (h : Blk w b C t) (ho : w.ownsRow base e n v k xs) (hb : b < base) (hg : w.grownBy w' v.ownBlock) : Blk w' b C t :=
  blk_grown h hg fun e => by have := ho.lt _ e.symm; omega
theorem grown_low {B : Nat} {w0 w w' : World} {e : TypeId} {v : Value} {k n base : Nat} {xs : List Value} (hb : Below B w0 w) (hB : B ≤ base) (hl : B ≤ w0.heap.size) (ho : w.ownsRow base e n v k xs) (hg : w.grownBy w' v.ownBlock) : Below B w0 w' :=
  hb.trans (((Mod.refl (fun k => B ≤ k) w).grown hg (fun k hk _ => by have := ho.lt k hk; omega)).below (Nat.le_trans hl hb.size) (fun _ g => g))
theorem row_cells {w : World} {g : Nat} {R : List Value} {t : TypeId} (h : Blk w g R.toArray t) : ∀ j u, R[j]? = some u → w.cell? ((⟨g, 0, none⟩ : Addr).add j) = some u := by
  intro j u hj
  have e1 : (⟨g, 0, none⟩ : Addr).add j = ⟨g, j, none⟩ := by unfold Addr.add; split <;> simp_all
  rw [e1]
  exact h.cell (by simpa using hj)
/-- what append wants of a type of elements -/
structure ElT (P : Program) (T E : TypeId) (n b : Nat) : Prop where
  under : P.underlying T = some (.slice E)
  size : (P.info? E).map (·.size) = some n
  bytes : (P.info? E).map (·.bytes) = some b
  zero : ((P.info? E).bind (·.zero)).map (·.cells.size) = some n
  pos : 0 < n
  small : b ≤ 1000
section
variable {P : Program} {T E : TypeId} {n b : Nat}
theorem run_appG (hT : ElT P T E n b) {ρ : Operand → Value} {o : Oper} {w : World} {x y : Operand} (base : Nat) (hbase : base ≤ w.heap.size) (v : Value) (m : Nat) (xs : List Value) (ho : o.op = .call { callee := .builtin .append, args := #[x, y], argTypes := #[T, T] })
    (hx : ρ x = v) (hown : w.ownsRow base E n v m xs) (hm : m ≤ 100000) (a : Addr) (k c : Nat) (news : List Value) (hy : ρ y = .slice (some a) k c) (hl : news.length = k * n) (hk : k ≤ 1000) (hc : ∀ j u, news[j]? = some u → w.cell? (a.add j) = some u) (h1 : ∀ u ∈ news, u.oneCell' = true) :
    ∃ v' w', (execOp ρ o).run P w = .ok (.value v') w' ∧ w'.ownsRow base E n v' (m + k) (xs ++ news) ∧ w.grownBy w' v.ownBlock := by
  obtain ⟨ht, e1, e2, e3, hp, hb⟩ := hT
  obtain ⟨i, hi⟩ : ∃ i, P.info? E = some i := by
    cases h : P.info? E with
    | none => rw [h] at e1; cases e1
    | some i => exact ⟨i, rfl⟩
  rw [hi] at e1 e2 e3
  simp only [Option.map_some, Option.some.injEq, Option.bind_some] at e1 e2 e3
  obtain ⟨z, hzz⟩ : ∃ z, i.zero = some z := by
    cases hz : i.zero with
    | none => rw [hz] at e3; cases e3
    | some z => exact ⟨z, rfl⟩
  rw [hzz] at e3
  simp only [Option.map_some, Option.some.injEq] at e3
  have hbb : (m + k) * b ≤ 101000 * 1000 := Nat.mul_le_mul (by omega) hb
  obtain ⟨v', w', h2, h3, h4, _⟩ := run_append_own (P := P) w base T o.type E i z n b ht hi hzz e1 e2 e3 hp v m xs hown a k c news hl hc h1 (by unfold maxLen; omega) (by omega) hbase
  refine ⟨v', w', ?_, h3, h4⟩
  unfold execOp
  simp only [ho, resolve, invoke, builtin, Sem.run_bind, Sem.run_pure, Result.andThen_ok, List.map_toArray, List.map_cons, List.map_nil, hx, hy, h2]
theorem wpList_appG (hT : ElT P T E n b) {ops : Array Oper} {rest : List Oper} {o : Oper} {a : Act} {w : World} {Q : Exit → Act → World → Prop} (hgd : o.guard = none) (x y : Operand) (ho : o.op = .call { callee := .builtin .append, args := #[x, y], argTypes := #[T, T] })
    (base : Nat) (hbase : base ≤ w.heap.size) (v : Value) (m : Nat) (xs : List Value) (hx : a.eval x = v) (hown : w.ownsRow base E n v m xs) (hm : m ≤ 100000) (q : Addr) (k c : Nat) (news : List Value) (hy : a.eval y = .slice (some q) k c) (hl : news.length = k * n) (hk : k ≤ 1000)
    (hc : ∀ j u, news[j]? = some u → w.cell? (q.add j) = some u) (h1 : ∀ u ∈ news, u.oneCell' = true)
    (h : ∀ v' w', w'.ownsRow base E n v' (m + k) (xs ++ news) → w.grownBy w' v.ownBlock → wpList P ops Q rest (a.put o.dst v') w') : wpList P ops Q (o :: rest) a w :=
  wpList_plain hgd fun _ hK => by
    obtain ⟨v', w', h2, h3, h4⟩ := run_appG hT base hbase v m xs ho hx hown hm q k c news hy hl hk hc h1
    unfold Oper.wp
    rw [h2]
    exact hK _ _ (h v' w' h3 h4)
end
theorem flat_len {n : Nat} : ∀ (R : List (List Value)), (∀ x ∈ R, x.length = n) → R.flatten.length = R.length * n
  | [], _ => by simp
  | y :: R, h => by
    rw [List.flatten_cons, List.length_append, h y List.mem_cons_self, flat_len R (fun x hx => h x (List.mem_cons_of_mem _ hx)), List.length_cons, Nat.succ_mul]
    omega
theorem flat_at {n : Nat} : ∀ (R : List (List Value)) (k j : Nat) (x : List Value) (v : Value), (∀ x ∈ R, x.length = n) → R[k]? = some x → x[j]? = some v → R.flatten[k * n + j]? = some v
  | [], k, j, x, v, _, h, _ => by simp at h
  | y :: R, 0, j, x, v, hl, h, hv => by
    simp only [List.getElem?_cons_zero, Option.some.injEq] at h
    subst h
    have hj := (List.getElem?_eq_some_iff.1 hv).1
    rw [List.flatten_cons, Nat.zero_mul, Nat.zero_add, List.getElem?_append_left hj]
    exact hv
  | y :: R, k + 1, j, x, v, hl, h, hv => by
    have hy := hl y List.mem_cons_self
    rw [List.flatten_cons, List.getElem?_append_right (by rw [hy, Nat.succ_mul]; omega), hy, show (k + 1) * n + j - n = k * n + j by rw [Nat.succ_mul]; omega]
    exact flat_at R k j x v (fun x hx => hl x (List.mem_cons_of_mem _ hx)) (by simpa using h) hv
/-- a row that a call made, as one that lies there -/
theorem own_els {w : World} {base : Nat} {E : TypeId} {n k c : Nat} {p : Option Addr} {R : List (List Value)} (hl : ∀ x ∈ R, x.length = n) (h : w.ownsRow base E n (.slice p k c) R.length R.flatten) (hb : R.length ≤ 140737488351232) :
    Els w p n R ∧ k = R.length ∧ k ≤ c ∧ (∀ a, p = some a → base ≤ a.block ∧ a.block < w.heap.size ∧ a.spot = none) := by
  rcases h.2 with ⟨hv, h0⟩ | ⟨g, cap, cur, hv, hg, hw, hk, hm, hs, ht⟩
  · cases hv
    have hR : R = [] := List.length_eq_zero_iff.1 h0
    subst hR
    exact ⟨⟨(fun _ => rfl), hl, hb, (fun a ha => by cases ha)⟩, rfl, Nat.le_refl _, fun a ha => by cases ha⟩
  · cases hv
    refine ⟨⟨(fun e => by cases e), hl, hb, (fun a ha i x j v hi hj => ?_)⟩, rfl, hk, fun a ha => by cases ha; exact ⟨hg, (Array.getElem?_eq_some_iff.1 hw).1, rfl⟩⟩
    cases ha
    exact h.cells rfl _ v (flat_at R i j x v hl hi hj)
end Go.Proofs.Ytcdpiemkbefcoaa
