/-
  Maps from integers to integers (map[int]int): one word for the walk, over the kit's 'ownsMap'.
-/
import Derived.Test.YtpbmeeogledmdaeEls
import Derived.Maps.OwnSet
import Derived.Maps.Views
namespace Go.Proofs.Ytpbmeeogledmdae
open Go.Maps (Keyed)

def wf64 (a : Int) : Prop := -9223372036854775808 ≤ a ∧ a < 9223372036854775808
theorem wf64_lit {a : Int} (h : wf64 a) : (Lit.int .i64 a).wf = true := by
  obtain ⟨h1, h2⟩ := h
  simp [Lit.wf]
  exact ⟨h1, by omega⟩

/-- Block b of w is a map of at most n entries: m k is what it holds at k. -/
def MapV (P : Program) (k e : TypeId) (w : World) (b n : Nat) (m : Int → Option Int) : Prop :=
  ∃ D : DataW Unit, w.ownsMap P k (plainElem P e) b n D ∧ ∀ i : Int, D.atKey (.int .i64 i) (.lit (.int .i64 0)) = .lit (.int .i64 ((m i).getD 0)) ∧ Go.Maps.has D (.int .i64 i) = (m i).isSome

section
variable {P : Program} {k e : TypeId} {w : World} {b n : Nat} {m : Int → Option Int}
theorem MapV.lt (h : MapV P k e w b n m) : b < w.heap.size := by
  obtain ⟨D, h, _⟩ := h
  exact h.lt
theorem MapV.mod {w' : World} (h : MapV P k e w b n m) {S : Nat → Prop} (hm : Mod S w w') (hs : ¬ S b) : MapV P k e w' b n m := by
  obtain ⟨D, h, hv⟩ := h
  refine ⟨D, ?_, hv⟩
  obtain ⟨es, clock, hb, r⟩ := h
  exact ⟨es, clock, (hm.block b (Array.getElem?_eq_some_iff.1 hb).1 hs).trans hb, r⟩
theorem MapV.mono (h : MapV P k e w b n m) {n' : Nat} (hn : n ≤ n') : MapV P k e w b n' m := by
  obtain ⟨D, h, hv⟩ := h
  exact ⟨D, h.mono hn, hv⟩
theorem MapV.new (P : Program) (k e : TypeId) (w : World) : MapV P k e (w.alloc (.map #[] 0)) w.heap.size 0 (fun _ => none) :=
  ⟨.map [], World.ownsMap_made w P k _, fun _ => ⟨rfl, rfl⟩⟩
/-- m[key] -/
theorem MapV.get (h : MapV P k e w b n m) (hk : P.underlying k = some (.int .i64)) (he : P.underlying e = some (.int .i64)) {t : TypeId} (ht : P.underlying t = some (.map k e)) (hz : (zeroValue e).run P w = .ok (.int .i64 0) w)
    {i : Int} (hi : wf64 i) : (Instr.lookup t (.map (some b)) (.int .i64 i) false).run P w = .ok (.int .i64 ((m i).getD 0)) w := by
  obtain ⟨D, h, hv⟩ := h
  obtain ⟨c, hrun, hat, _⟩ := h.lookup_int (Go.Maps.int_keyed hk) ht he hz (Go.Maps.keyOf_int_mk hk (wf64_lit hi))
  rw [(hv i).1] at hat
  cases hat
  exact hrun
/-- v, ok := m[key] -/
theorem MapV.getOk (h : MapV P k e w b n m) (hk : P.underlying k = some (.int .i64)) (he : P.underlying e = some (.int .i64)) {t : TypeId} (ht : P.underlying t = some (.map k e)) (hz : (zeroValue e).run P w = .ok (.int .i64 0) w)
    {i : Int} (hi : wf64 i) : (Instr.lookup t (.map (some b)) (.int .i64 i) true).run P w = .ok (.tuple #[.int .i64 ((m i).getD 0), .bool (m i).isSome]) w := by
  obtain ⟨D, h, hv⟩ := h
  obtain ⟨v, ps, hrun, hR⟩ := h.look_ok (Go.Maps.int_keyed hk) ht hz (plainElem_int he (by decide)) (Go.Maps.keyOf_int_mk hk (wf64_lit hi))
  obtain ⟨c, rfl, hc, _⟩ := plainElem_int_inv he hR
  simp only [Prod.mk.injEq] at hc
  have hc := hc.1
  rw [(hv i).1] at hc
  cases hc
  rw [(hv i).2] at hrun
  exact hrun
theorem lit_ne {i j : Int} (h : i ≠ j) : (Lit.int .i64 i) ≠ .int .i64 j := by
  intro e
  cases e
  exact h rfl
/-- m[key] = v -/
theorem MapV.update (h : MapV P k e w b n m) (hk : P.underlying k = some (.int .i64)) (he : P.underlying e = some (.int .i64)) {t : TypeId} (ht : P.underlying t = some (.map k e)) (hn : n < maxLen)
    {i v : Int} (hi : wf64 i) (hv : wf64 v) : ∃ w', (Instr.mapUpdate t (.map (some b)) (.int .i64 i) (.int .i64 v)).run P w = .ok () w' ∧ MapV P k e w' b (n + 1) (fun j => if j = i then some v else m j) ∧ Mod (· = b) w w' := by
  obtain ⟨D, h, hat⟩ := h
  obtain ⟨w', hrun, h', ht'⟩ := h.store (Go.Maps.int_keyed hk) ht hn (Go.Maps.keyOf_int_mk hk (wf64_lit hi)) (plainElem_int he (wf64_lit hv))
  refine ⟨w', hrun, ⟨_, h', fun j => ?_⟩, (Mod.refl _ w).grown ht'.grown (fun k e _ => by cases e; rfl)⟩
  simp only []
  by_cases hj : j = i
  · subst hj
    rw [if_pos rfl, Go.Maps.atKey_put_same h.isMap (show Go.WideAt.IsKeyLit (.int .i64 j) from trivial), Go.Maps.has_put_same h.isMap (show Go.WideAt.IsKeyLit (.int .i64 j) from trivial)]
    exact ⟨rfl, rfl⟩
  · rw [if_neg hj, Go.Maps.atKey_put_other (lit_ne hj), Go.Maps.has_put_other (lit_ne hj)]
    exact hat j
/-- delete(m, key) -/
theorem MapV.delete (h : MapV P k e w b n m) (hk : P.underlying k = some (.int .i64)) {t : TypeId} (ht : P.underlying t = some (.map k e)) {i : Int} (hi : wf64 i) (ty : TypeId) :
    ∃ w', (Builtin.delete_ #[t, k] ty #[.map (some b), .int .i64 i]).run P w = .ok (.tuple #[]) w' ∧ MapV P k e w' b n (fun j => if j = i then none else m j) ∧ Mod (· = b) w w' := by
  obtain ⟨D, h, hat⟩ := h
  obtain ⟨w', hrun, h', ht'⟩ := h.drop (Go.Maps.int_keyed hk) ht (Go.Maps.keyOf_int_mk hk (wf64_lit hi)) ty
  refine ⟨w', hrun, ⟨_, h', fun j => ?_⟩, (Mod.refl _ w).grown ht'.grown (fun k e _ => by cases e; rfl)⟩
  simp only []
  by_cases hj : j = i
  · subst hj
    rw [if_pos rfl, Go.Maps.atKey_del_same, Go.Maps.has_del_same]
    exact ⟨rfl, rfl⟩
  · rw [if_neg hj, Go.Maps.atKey_del_other (lit_ne hj), Go.Maps.has_del_other (lit_ne hj)]
    exact hat j
end
end Go.Proofs.Ytpbmeeogledmdae
