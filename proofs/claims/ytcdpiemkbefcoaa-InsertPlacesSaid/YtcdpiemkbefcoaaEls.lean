/-
  Rows of structs that lie in a world; what is a route.
-/
import Derived.Test.YtcdpiemkbefcoaaMp
namespace Go.Proofs.Ytcdpiemkbefcoaa
open Go.RowKit

theorem addr_add_add (a : Addr) (m n : Nat) : (a.add m).add n = a.add (m + n) := by
  unfold Addr.add
  by_cases hm : m = 0
  · subst hm; simp
  · by_cases hn : n = 0
    · subst hn; simp [hm]
    · simp [hm, hn, Nat.add_assoc]
/-- a row of structs of n cells each -/
structure Els (w : World) (p : Option Addr) (n : Nat) (R : List (List Value)) : Prop where
  nil : p = none → R = []
  len : ∀ x ∈ R, x.length = n
  big : R.length ≤ 140737488351232
  cells : ∀ a, p = some a → ∀ k x j v, R[k]? = some x → x[j]? = some v → w.cell? (a.add (k * n + j)) = some v
section
variable {w w' : World} {p : Option Addr} {n : Nat} {R : List (List Value)}
theorem Els.below (h : Els w p n R) (hb : Below w.heap.size w w') : Els w' p n R :=
  ⟨h.nil, h.len, h.big, fun a ha k x j v hk hj => (hb.cell (p := a.add (k * n + j)) (World.block_lt_of_cell? w _ (h.cells a ha k x j v hk hj))).trans (h.cells a ha k x j v hk hj)⟩
theorem Els.load {P : Program} (h : Els w p n R) {a : Addr} (ha : p = some a) {k : Nat} (hk : k < R.length) {ty : TypeId} {d : TypeDesc}
    (hu : P.underlying ty = some d) (hd : (match d with | .struct _ | .array _ _ => true | _ => false) = true) (hi : (P.info? ty).map (·.size) = some n) :
    (loadVar ty (a.add (k * n))).run P w = .ok (.agg R[k].toArray) w := by
  have hx := h.len _ (List.getElem_mem hk)
  refine run_loadVar_at w _ ty R[k] d (fun j v hj => ?_) hu hd (by rw [hi, hx])
  rw [addr_add_add]
  exact h.cells a ha k _ j v (List.getElem?_eq_getElem hk) hj
theorem Els.some_of (h : Els w p n R) {k : Nat} (hk : k < R.length) : ∃ a, p = some a := by
  cases p with
  | none => rw [h.nil rfl] at hk; cases hk
  | some a => exact ⟨a, rfl⟩
theorem Els.take (h : Els w p n R) (k : Nat) : Els w p n (R.take k) :=
  ⟨fun e => by rw [h.nil e, List.take_nil], fun x hx => h.len x (List.mem_of_mem_take hx), by rw [List.length_take]; have := h.big; omega, fun a ha i x j v hi hj => h.cells a ha i x j v (by
    rw [List.getElem?_take] at hi
    split at hi
    · exact hi
    · cases hi) hj⟩
end
/-- a stop -/
def stV (s : Int × Int) : List Value := [.int .i64 s.1, .int .i64 s.2]
theorem stV_len (l : List (Int × Int)) : ∀ x ∈ l.map stV, x.length = 2 := by
  intro x hx
  obtain ⟨s, _, rfl⟩ := List.mem_map.1 hx
  rfl
theorem stV_one (s : Int × Int) : ∀ v ∈ (stV s).toArray.toList, v.oneCell' = true := by simp [stV, Value.oneCell']

/-- one stop more: the map, or that it may not be -/
def chStep (M : Pairs) (s : Int × Int) : Option Pairs :=
  if s.1 < 0 then none
  else if s.2 = 0 ∧ lookM M s.1 = (0, 0) then some (putM M s.1 (1, 0))
  else if s.2 = 1 ∧ lookM M s.1 = (1, 0) then some (putM M s.1 (1, 1))
  else none
def chRun : List (Int × Int) → Pairs → Pairs × Bool
  | [], M => (M, true)
  | s :: r, M => match chStep M s with | none => (M, false) | some M' => chRun r M'
def unB (M : Pairs) : Bool := M.any fun x => x.2.1 != x.2.2
/-- what route.Check answers -/
def chkP (l : List (Int × Int)) : Int :=
  if 16 < l.length then 11 else if (chRun l []).2 then (if unB (chRun l []).1 then 8 else 0) else 8
theorem chRun_step {l : List (Int × Int)} {k : Nat} {M : Pairs} (hk : k < l.length) : chRun (l.drop k) M = match chStep M l[k] with | none => (M, false) | some M' => chRun (l.drop (k + 1)) M' := by
  rw [List.drop_eq_getElem_cons hk]
  rfl
end Go.Proofs.Ytcdpiemkbefcoaa
