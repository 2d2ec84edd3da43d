/-
  append of rows that lie there; onto a row that has no room. Of no program.
-/
import Derived.Test.YtcdpiemkbefcoaaApp
import Derived.ArgAppend
namespace Go.Proofs.Ytcdpiemkbefcoaa
open Go.RowKit

theorem flat_inv {n : Nat} : ∀ (R : List (List Value)) (j : Nat) (u : Value), (∀ x ∈ R, x.length = n) → R.flatten[j]? = some u → ∃ k x r, R[k]? = some x ∧ x[r]? = some u ∧ j = k * n + r
  | [], j, u, _, h => by simp at h
  | y :: R, j, u, hl, h => by
    have hy := hl y List.mem_cons_self
    rw [List.flatten_cons] at h
    by_cases hj : j < y.length
    · rw [List.getElem?_append_left hj] at h
      exact ⟨0, y, j, rfl, h, by omega⟩
    · rw [List.getElem?_append_right (by omega)] at h
      obtain ⟨k, x, r, h1, h2, h3⟩ := flat_inv R _ u (fun x hx => hl x (List.mem_cons_of_mem _ hx)) h
      exact ⟨k + 1, x, r, by simpa using h1, h2, by rw [Nat.succ_mul]; omega⟩
section
variable {w : World} {p : Option Addr} {n : Nat} {R : List (List Value)}
theorem Els.flat (h : Els w p n R) {a : Addr} (ha : p = some a) : ∀ j u, R.flatten[j]? = some u → w.cell? (a.add j) = some u := by
  intro j u hu
  obtain ⟨k, x, r, h1, h2, rfl⟩ := flat_inv R j u h.len hu
  exact h.cells a ha k x r u h1 h2
/-- a part of a row: l[i:j], m the capacity's bound -/
theorem els_slice (h : Els w p n R) {i j m : Nat} (hij : i ≤ j) (hm : j ≤ m) : Els w (if m = i then p else p.map (·.add (i * n))) n ((R.drop i).take (j - i)) := by
  have hl : ∀ x ∈ (R.drop i).take (j - i), x.length = n := fun x hx => h.len x (List.mem_of_mem_drop (List.mem_of_mem_take hx))
  have hb : ((R.drop i).take (j - i)).length ≤ 140737488351232 := by have := h.big; simp; omega
  by_cases e : m = i
  · rw [if_pos e]
    obtain rfl : j = i := by omega
    rw [Nat.sub_self, List.take_zero]
    exact ⟨fun _ => rfl, fun x hx => (by cases hx), by simp, fun a ha k x j v hk _ => by simp at hk⟩
  · rw [if_neg e]
    refine ⟨fun hn => ?_, hl, hb, fun a ha k x r v hk hr => ?_⟩
    · rw [Option.map_eq_none_iff] at hn
      rw [h.nil hn]; simp
    · obtain ⟨a0, ha0, rfl⟩ := Option.map_eq_some_iff.1 ha
      rw [addr_add_add, ← Nat.add_assoc, ← Nat.add_mul]
      refine h.cells a0 ha0 (i + k) x r v ?_ hr
      rw [List.getElem?_take] at hk
      split at hk
      · rwa [List.getElem?_drop] at hk
      · cases hk
end
theorem run_append_nil {P : Program} (w : World) (t ty e : TypeId) (i : TypeInfo) (ht : P.underlying t = some (.slice e)) (hi : P.info? e = some i) (base : Option Addr) (n cap c : Nat) (h : n ≤ cap) :
    (Builtin.append_ #[t, t] ty #[.slice base n cap, .slice none 0 c]).run P w = .ok (.slice base n cap) w := by
  cases base <;> simp [Builtin.append_, run_underlying ht, sizeOf, typeInfo, hi, Builtin.lenOf, h, Builtin.firstCells, storeCells]
section
variable {P : Program} {T E : TypeId} {n b : Nat}
/-- append(own, l...), l a row that lies there -/
theorem wpList_appE (hT : ElT P T E n b) {ops : Array Oper} {rest : List Oper} {o : Oper} {a : Act} {w : World} {Q : Exit → Act → World → Prop} (hgd : o.guard = none) (x y : Operand) (ho : o.op = .call { callee := .builtin .append, args := #[x, y], argTypes := #[T, T] })
    (base : Nat) (hbase : base ≤ w.heap.size) (v : Value) (m : Nat) (xs : List Value) (hx : a.eval x = v) (hown : w.ownsRow base E n v m xs) (hm : m ≤ 100000) (q : Option Addr) (k c : Nat) (R : List (List Value)) (hy : a.eval y = .slice q k c) (hE : Els w q n R) (hk : k = R.length) (hk1 : k ≤ 1000)
    (h1 : ∀ x ∈ R, ∀ u ∈ x, u.oneCell' = true)
    (h : ∀ v' w', w'.ownsRow base E n v' (m + k) (xs ++ R.flatten) → w.grownBy w' v.ownBlock → wpList P ops Q rest (a.put o.dst v') w') : wpList P ops Q (o :: rest) a w := by
  cases q with
  | some q =>
    refine wpList_appG hT hgd x y ho base hbase v m xs hx hown hm q k c R.flatten hy (by rw [flat_len R hE.len, hk]) hk1 (hE.flat rfl) (fun u hu => ?_) h
    obtain ⟨z, hz, hu⟩ := List.mem_flatten.1 hu
    exact h1 z hz u hu
  | none =>
    obtain rfl := hE.nil rfl
    obtain rfl : k = 0 := hk
    obtain ⟨ht, e1, _⟩ := hT
    obtain ⟨i, hi⟩ : ∃ i, P.info? E = some i := by
      cases h : P.info? E with
      | none => rw [h] at e1; cases e1
      | some i => exact ⟨i, rfl⟩
    obtain ⟨p, d, hv, hd⟩ : ∃ p d, v = .slice p m d ∧ m ≤ d := by
      rcases hown.2 with ⟨hv, h0⟩ | ⟨g, cap, cur, hv, _, _, hk, _⟩
      · exact ⟨none, 0, by rw [hv, h0], by omega⟩
      · exact ⟨_, _, hv, hk⟩
    refine wpList_plain hgd fun _ hK => ?_
    unfold Oper.wp execOp
    simp only [ho, resolve, invoke, builtin, Sem.run_bind, Sem.run_pure, Result.andThen_ok, List.map_toArray, List.map_cons, List.map_nil, hx, hy, hv, run_append_nil w T o.type E i ht hi p m d c hd]
    refine hK _ _ (hv ▸ h v w (by simpa using hown) ⟨rfl, rfl, rfl, Nat.le_refl _, fun _ _ _ => rfl⟩)
/-- append(l[:i:i], one), l a row that lies there -/
theorem wpList_appF (hT : ElT P T E n b) {ops : Array Oper} {rest : List Oper} {o : Oper} {a : Act} {w : World} {Q : Exit → Act → World → Prop} (hgd : o.guard = none) (x y : Operand) (ho : o.op = .call { callee := .builtin .append, args := #[x, y], argTypes := #[T, T] })
    (p : Option Addr) (m : Nat) (R : List (List Value)) (hx : a.eval x = .slice p m m) (hE : Els w p n R) (hmR : m = R.length) (hm : m ≤ 100000) (q : Addr) (c : Nat) (news : List Value) (hy : a.eval y = .slice (some q) 1 c) (hl : news.length = n)
    (hc : ∀ j u, news[j]? = some u → w.cell? (q.add j) = some u) (h1 : ∀ u ∈ news, u.oneCell' = true)
    (h : ∀ v' w', w'.ownsRow w.heap.size E n v' (m + 1) (R.flatten ++ news) → w.grownBy w' none → wpList P ops Q rest (a.put o.dst v') w') : wpList P ops Q (o :: rest) a w := by
  obtain ⟨ht, e1, e2, e3, hp, hb⟩ := hT
  obtain ⟨i, hi⟩ : ∃ i, P.info? E = some i := by
    cases h : P.info? E with
    | none => rw [h] at e1; cases e1
    | some i => exact ⟨i, rfl⟩
  rw [hi] at e1 e2 e3
  simp only [Option.map_some, Option.some.injEq, Option.bind_some] at e1 e2 e3
  obtain ⟨z, hzz⟩ : ∃ z, i.zero = some z := by
    cases hz : i.zero with
    | none => rw [hz] at e3; cases e3
    | some z => exact ⟨z, rfl⟩
  rw [hzz] at e3
  simp only [Option.map_some, Option.some.injEq] at e3
  have hbb : (m + 1) * b ≤ 100001 * 1000 := Nat.mul_le_mul (by omega) hb
  refine wpList_append_grows w hgd x y T ho E i z n b ht hi hzz e1 e2 e3 hp p m m R.flatten hx (fun e => ?_) (by rw [flat_len R hE.len, hmR]) (fun b hb => hE.flat hb) q 1 c news hy (by omega) hc h1 (by omega) (by unfold maxLen; omega) (by omega) h
  rw [hE.nil e] at hmR
  exact ⟨hmR, hmR⟩
end
end Go.Proofs.Ytcdpiemkbefcoaa
