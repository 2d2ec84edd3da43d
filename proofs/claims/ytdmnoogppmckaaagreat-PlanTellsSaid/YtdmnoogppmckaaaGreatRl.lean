/-
  Layer 13: the document's plan: as it lies in a world; New, Where, All, Total.
-/
import Derived.Test.YtdmnoogppmckaaaGreatPs
namespace Go.Proofs.YtdmnoogppmckaaaGreat
open Go.RowKit

theorem sk_appE {P : Program} {T E : TypeId} {n b : Nat} {R : Value → World → Prop} (hT : ElT P T E n b) {ρ : Operand → Value} {o : Oper} {w : World} {x y : Operand} (base : Nat) (hbase : base ≤ w.heap.size) (v : Value) (m : Nat) (xs : List Value) (ho : o.op = .call { callee := .builtin .append, args := #[x, y], argTypes := #[T, T] })
    (hx : ρ x = v) (hown : w.ownsRow base E n v m xs) (hm : m ≤ 100000) (q : Option Addr) (k c : Nat) (L : List (List Value)) (hy : ρ y = .slice q k c) (hE : Els w q n L) (hk : k = L.length) (hk1 : k ≤ 1000) (h1 : ∀ x ∈ L, ∀ u ∈ x, u.oneCell' = true)
    (h : ∀ v' w', w'.ownsRow base E n v' (m + k) (xs ++ L.flatten) → w.grownBy w' v.ownBlock → R v' w') : upon2 P R ((execOp ρ o).run P w) := by
  cases q with
  | some q =>
    refine sk_app hT base hbase v m xs ho hx hown hm q k c L.flatten hy (by rw [flat_len L hE.len, hk]) hk1 (hE.flat rfl) (fun u hu => ?_) h
    obtain ⟨z, hz, hu⟩ := List.mem_flatten.1 hu
    exact h1 z hz u hu
  | none =>
    obtain rfl := hE.nil rfl
    obtain rfl : k = 0 := hk
    obtain ⟨ht, e1, _⟩ := hT
    obtain ⟨i, hi⟩ : ∃ i, P.info? E = some i := by
      cases h : P.info? E with
      | none => rw [h] at e1; cases e1
      | some i => exact ⟨i, rfl⟩
    obtain ⟨p, d, hv, hd⟩ : ∃ p d, v = .slice p m d ∧ m ≤ d := by
      rcases hown.2 with ⟨hv, h0⟩ | ⟨g, cap, cur, hv, _, _, hk, _⟩
      · exact ⟨none, 0, by rw [hv, h0], by omega⟩
      · exact ⟨_, _, hv, hk⟩
    unfold execOp
    simp only [ho, resolve, invoke, builtin, Sem.run_bind, Sem.run_pure, Result.andThen_ok, List.map_toArray, List.map_cons, List.map_nil, hx, hy, hv, run_append_nil w T o.type E i ht hi p m d c hd]
    exact hv ▸ h v w (by simpa using hown) ⟨rfl, rfl, rfl, Nat.le_refl _, fun _ _ _ => rfl⟩
/-- two rows of their own, of elements of two types, are apart -/
theorem own_own_ne {w : World} {b1 b2 n1 n2 k1 k2 : Nat} {E1 E2 : TypeId} {v1 v2 : Value} {x1 x2 : List Value} (h1 : w.ownsRow b1 E1 n1 v1 k1 x1) (h2 : w.ownsRow b2 E2 n2 v2 k2 x2) (hE : E1 ≠ E2) {g : Nat} (e1 : v1.ownBlock = some g) (e2 : v2.ownBlock = some g) : False := by
  rcases h1.2 with ⟨hv, _⟩ | ⟨g1, c1, u1, hv, _, hh1, _⟩
  · rw [hv] at e1; cases e1
  · rcases h2.2 with ⟨hv2, _⟩ | ⟨g2, c2, u2, hv2, _, hh2, _⟩
    · rw [hv2] at e2; cases e2
    · rw [hv] at e1
      rw [hv2] at e2
      have d1 : g1 = g := Option.some.inj e1
      have d2 : g2 = g := Option.some.inj e2
      rw [d1] at hh1
      rw [d2, hh1] at hh2
      simp only [Option.some.injEq, Obj.cells.injEq] at hh2
      exact hE hh2.2.1
theorem blk_neR {w : World} {g g' : Nat} {C C' : Array Value} {T T' : TypeId} (hB : Blk w g C T) (hB2 : Blk w g' C' T') (hT : T ≠ T') : g ≠ g' := by
  rintro rfl
  have h1 : w.heap[g]? = some (.cells C T (0, 0)) := hB
  have h2 : w.heap[g]? = some (.cells C' T' (0, 0)) := hB2
  rw [h1] at h2
  cases h2
  exact hT rfl
theorem veR_allR (l : List Ve) : ∀ z ∈ l.map veR, ∀ u ∈ z, u.oneCell' = true := by
  intro z hz
  obtain ⟨s, _, rfl⟩ := List.mem_map.1 hz
  simp [veR, Value.oneCell']
theorem rsl_veR (w : World) : (Instr.buildSlice 22 0 #[]).run Tryz.prog w = .ok (.slice (some ⟨w.heap.size, 0, none⟩) 0 0) (w.alloc (.cells #[] 53)) := by kernel_rfl
theorem run_bslB {ρ : Operand → Value} {o : Oper} {w : World} {ty : TypeId} {n : Nat} {v : Value} {w' : World} (ho : o.op = .buildSlice ty n #[]) (hr : (Instr.buildSlice ty n #[]).run Tryz.prog w = .ok v w') : (execOp ρ o).run Tryz.prog w = .ok (.value v) w' := by
  unfold execOp
  simp only [ho, List.map_toArray, List.map_nil, Sem.run_bind, hr, Sem.run_pure, Result.andThen_ok]
structure RplIn (w : World) (F : Nat → Prop) (b gR : Nat) (fl : List Ve) (rows : List Rou2) (t : List Rq) (qF : Option Addr) (dF : Nat) (qT : Option Addr) (dT : Nat) (qs : List (Option Addr × Nat)) : Prop where
  box : Blk w b #[.slice qF fl.length dF, .slice qT t.length dT, .slice (some ⟨gR, 0, none⟩) fl.length fl.length] 88
  fleet : Els w qF 5 (fl.map veR)
  req : Els w qT 10 (t.map rqV)
  tb : ∃ C, Blk w gR C 47
  rws : Els w (some ⟨gR, 0, none⟩) 1 (rsV rows qs rows.length)
  row : ∀ i, Els w (qs.getD i (none, 0)).1 2 ((rows.getD i []).map stV)
  cap : ∀ i, (rows.getD i []).length ≤ (qs.getD i (none, 0)).2 ∧ (qs.getD i (none, 0)).2 ≤ 9223372036854775807
  rowB : ∀ i a, (qs.getD i (none, 0)).1 = some a → rows.getD i [] ≠ [] → F a.block ∧ a.block ≠ gR
  flB : ∀ a, qF = some a → fl ≠ [] → F a.block ∧ a.block ≠ gR
  reqB : ∀ a, qT = some a → t ≠ [] → F a.block ∧ a.block ≠ gR
  fb : F b
  fR : F gR
  ne : b ≠ gR
  lt : ∀ k, F k → k < w.heap.size
  len : rows.length = fl.length
  lenq : qs.length = fl.length
def RplAt (w : World) (F : Nat → Prop) (b gR : Nat) (fl : List Ve) (rows : List Rou2) (t : List Rq) : Prop := ∃ qF dF qT dT qs, RplIn w F b gR fl rows t qF dF qT dT qs
theorem RplIn.mod {w w' : World} {F : Nat → Prop} {b gR : Nat} {fl : List Ve} {rows : List Rou2} {t : List Rq} {qF qT : Option Addr} {dF dT : Nat} {qs : List (Option Addr × Nat)} (h : RplIn w F b gR fl rows t qF dF qT dT qs)
    {S : Nat → Prop} (hm : Mod S w w') (hs : ∀ k, S k → ¬ F k) : RplIn w' F b gR fl rows t qF dF qT dT qs :=
  ⟨h.box.mod hm (fun s => hs _ s h.fb), els_modP h.fleet hm (fun a ha hR s => hs _ s (h.flB a ha (fun e => hR (by rw [e]; rfl))).1), els_modP h.req hm (fun a ha hR s => hs _ s (h.reqB a ha (fun e => hR (by rw [e]; rfl))).1), (by obtain ⟨C, hC⟩ := h.tb; exact ⟨C, hC.mod hm (fun s => hs _ s h.fR)⟩),
    els_modP h.rws hm (fun a ha _ s => (by cases ha; exact hs _ s h.fR)), fun i => els_modP (h.row i) hm (fun a ha hR s => hs _ s (h.rowB i a ha (fun e => hR (by rw [e]; rfl))).1), h.cap, h.rowB, h.flB, h.reqB, h.fb, h.fR, h.ne, fun k hk => Nat.lt_of_lt_of_le (h.lt k hk) hm.size, h.len, h.lenq⟩
theorem RplAt.mod {w w' : World} {F : Nat → Prop} {b gR : Nat} {fl : List Ve} {rows : List Rou2} {t : List Rq} (h : RplAt w F b gR fl rows t) {S : Nat → Prop} (hm : Mod S w w') (hs : ∀ k, S k → ¬ F k) : RplAt w' F b gR fl rows t := by
  obtain ⟨qF, dF, qT, dT, qs, h⟩ := h
  exact ⟨qF, dF, qT, dT, qs, h.mod hm hs⟩
theorem RplAt.below {w w' : World} {F : Nat → Prop} {b gR : Nat} {fl : List Ve} {rows : List Rou2} {t : List Rq} (h : RplAt w F b gR fl rows t) (hb : Below w.heap.size w w') : RplAt w' F b gR fl rows t :=
  h.mod ((Mod.refl (fun _ => False) w).after hb) (fun _ h => h.elim)
/-- n rows that are none -/
def nilR (n : Nat) : List Value := List.replicate n (.slice none 0 0)
theorem run_mkR (n : Nat) (hn : 1 ≤ n ∧ n ≤ 4) (w : World) : (Instr.makeSlice 45 (.int .i64 (n : Int)) (.int .i64 (n : Int))).run Tryz.prog w = .ok (.slice (some ⟨w.heap.size, 0, none⟩) n n) (w.alloc (.cells (nilR n).toArray 47)) := by
  obtain rfl | rfl | rfl | rfl : n = 1 ∨ n = 2 ∨ n = 3 ∨ n = 4 := by omega
  all_goals kernel_rfl
theorem flat_const (v : Value) : ∀ n : Nat, ((List.range n).map fun _ => [v]).flatten = List.replicate n v
  | 0 => rfl
  | n + 1 => by rw [List.range_succ, List.map_append, List.flatten_append, flat_const v n, List.replicate_succ']; rfl
theorem rsV_nil (fl : List Ve) : rsV (rows0 fl) (qs0 fl) (rows0 fl).length = (List.range fl.length).map fun _ => [Value.slice none 0 0] := by
  unfold rsV
  rw [show (rows0 fl).length = fl.length by simp [rows0]]
  refine List.map_congr_left fun i _ => ?_
  rw [rows0_at, qs0_at]
  rfl
theorem nilR_rows (fl : List Ve) : (rsV (rows0 fl) (qs0 fl) (rows0 fl).length).flatten = nilR fl.length := by
  rw [rsV_nil, flat_const]
  rfl
section
variable {ρ : Operand → Value} {o : Oper} {w : World} {x y z : Operand}
theorem run_mksA {n : Nat} (hn : 1 ≤ n ∧ n ≤ 4) (ho : o.op = .makeSlice 45 x y) (hx : ρ x = .int .i64 (n : Int)) (hy : ρ y = .int .i64 (n : Int)) : (execOp ρ o).run Tryz.prog w = .ok (.value (.slice (some ⟨w.heap.size, 0, none⟩) n n)) (w.alloc (.cells (nilR n).toArray 47)) := by
  unfold execOp
  simp only [ho, hx, hy, Sem.run_bind, run_mkR n hn, Result.andThen_ok, Sem.run_pure]
theorem run_bldR {p q r : Option Addr} {n c m d k f : Nat} (ho : o.op = .build 88 #[(0, x), (1, y), (2, z)]) (hx : ρ x = .slice p n c) (hy : ρ y = .slice q m d) (hz : ρ z = .slice r k f) :
    (execOp ρ o).run Tryz.prog w = .ok (.value (.agg #[.slice p n c, .slice q m d, .slice r k f])) w := by
  have h : (Instr.build 88 #[(0, .slice p n c), (1, .slice q m d), (2, .slice r k f)]).run Tryz.prog w = .ok (.agg #[.slice p n c, .slice q m d, .slice r k f]) w := by kernel_rfl
  unfold execOp
  simp only [ho, List.map_toArray, List.map_cons, List.map_nil, hx, hy, hz, Sem.run_bind, h, Result.andThen_ok, Sem.run_pure]
theorem run_boxR {p q r : Option Addr} {n c m d k f : Nat} (ho : o.op = .box 88 x) (hx : ρ x = .agg #[.slice p n c, .slice q m d, .slice r k f]) :
    (execOp ρ o).run Tryz.prog w = .ok (.value (.pointer (some ⟨w.heap.size, 0, none⟩))) (w.alloc (.cells #[.slice p n c, .slice q m d, .slice r k f] 88)) := by
  unfold execOp
  simp only [ho, hx]
  kernel_rfl
theorem run_bldRV {v1 v2 : Value} {r : Option Addr} {k f : Nat} (ho : o.op = .build 88 #[(0, x), (1, y), (2, z)]) (hx : ρ x = v1) (hy : ρ y = v2) (hz : ρ z = .slice r k f) (h1 : ∃ p n c, v1 = .slice p n c) (h2 : ∃ p n c, v2 = .slice p n c) :
    (execOp ρ o).run Tryz.prog w = .ok (.value (.agg #[v1, v2, .slice r k f])) w := by
  obtain ⟨p, n, c, rfl⟩ := h1
  obtain ⟨q, m, d, rfl⟩ := h2
  exact run_bldR ho hx hy hz
theorem run_boxRV {v1 v2 : Value} {r : Option Addr} {k f : Nat} (ho : o.op = .box 88 x) (hx : ρ x = .agg #[v1, v2, .slice r k f]) (h1 : ∃ p n c, v1 = .slice p n c) (h2 : ∃ p n c, v2 = .slice p n c) :
    (execOp ρ o).run Tryz.prog w = .ok (.value (.pointer (some ⟨w.heap.size, 0, none⟩))) (w.alloc (.cells #[v1, v2, .slice r k f] 88)) := by
  obtain ⟨p, n, c, rfl⟩ := h1
  obtain ⟨q, m, d, rfl⟩ := h2
  exact run_boxR ho hx
theorem run_lenV {p : Option Addr} {n c : Nat} (ho : o.op = .call { callee := .builtin .len, args := #[x], argTypes := #[22] }) (hx : ρ x = .slice p n c) : (execOp ρ o).run Tryz.prog w = .ok (.value (.int .i64 (n : Int))) w := by
  unfold execOp
  simp only [ho]
  go_simp
end
/-- region 13 of New: what is made, by what is done -/
structure RnC (w0 : World) (fl : List Ve) (t : List Rq) (B : Nat × Value × Nat × Value × Nat × Nat → Array Value) (x : Nat × Value × Nat × Value × Nat × Nat) (d0 d2 d3 d5 d8 d10 : Bool) (W : World) : Prop where
  m : Mod (fun _ => False) w0 W
  a : d0 = true → d2 = false → W.ownsRow w0.heap.size 53 5 (.slice (some ⟨x.1, 0, none⟩) 0 0) 0 []
  v1 : d2 = true → W.ownsRow w0.heap.size 53 5 x.2.1 fl.length (fl.map veR).flatten
  b : d3 = true → d5 = false → W.ownsRow w0.heap.size 72 10 (.slice (some ⟨x.2.2.1, 0, none⟩) 0 0) 0 []
  v2 : d5 = true → W.ownsRow w0.heap.size 72 10 x.2.2.2.1 t.length (t.map rqV).flatten
  g : d8 = true → Blk W x.2.2.2.2.1 (nilR fl.length).toArray 47 ∧ w0.heap.size ≤ x.2.2.2.2.1
  p : d10 = true → Blk W x.2.2.2.2.2 (B x) 88 ∧ w0.heap.size ≤ x.2.2.2.2.2
section
variable {w0 W W' : World} {fl : List Ve} {t : List Rq} {B : Nat × Value × Nat × Value × Nat × Nat → Array Value} {x : Nat × Value × Nat × Value × Nat × Nat} {d0 d2 d3 d5 d8 d10 : Bool}
theorem RnC.below (h : RnC w0 fl t B x d0 d2 d3 d5 d8 d10 W) (hb : Below W.heap.size W W') : RnC w0 fl t B x d0 d2 d3 d5 d8 d10 W' := by
  have hm := (Mod.refl (fun _ => False) W).after hb
  exact ⟨h.m.after hb, fun k l => own_mod (h.a k l) hm (fun _ _ h => h), fun k => own_mod (h.v1 k) hm (fun _ _ h => h), fun k l => own_mod (h.b k l) hm (fun _ _ h => h), fun k => own_mod (h.v2 k) hm (fun _ _ h => h), fun k => ⟨(h.g k).1.mod hm (fun h => h), (h.g k).2⟩, fun k => ⟨(h.p k).1.mod hm (fun h => h), (h.p k).2⟩⟩
theorem RnC.start (h : Mod (fun _ => False) w0 W) : RnC w0 fl t B x false false false false false false W :=
  ⟨h, (fun h => by cases h), (fun h => by cases h), (fun h => by cases h), (fun h => by cases h), (fun h => by cases h), (fun h => by cases h)⟩
theorem RnC.op0 (h : RnC w0 fl t B x d0 d2 d3 d5 d8 false W) : RnC w0 fl t B (W.heap.size, x.2) true d2 d3 d5 d8 false (W.alloc (.cells #[] 53)) := by
  have h2 := h.below (new_below W (.cells #[] 53))
  exact ⟨h2.m, fun _ _ => World.ownsRow_made (base := w0.heap.size) (e := 53) (size := 5) W #[] 0 h.m.size (by unfold maxLen; omega) rfl, h2.v1, h2.b, h2.v2, h2.g, (fun h => by cases h)⟩
theorem RnC.op3 (h : RnC w0 fl t B x d0 d2 d3 d5 d8 false W) : RnC w0 fl t B (x.1, x.2.1, W.heap.size, x.2.2.2) d0 d2 true d5 d8 false (W.alloc (.cells #[] 72)) := by
  have h2 := h.below (new_below W (.cells #[] 72))
  exact ⟨h2.m, h2.a, h2.v1, fun _ _ => World.ownsRow_made (base := w0.heap.size) (e := 72) (size := 10) W #[] 0 h.m.size (by unfold maxLen; omega) rfl, h2.v2, h2.g, (fun h => by cases h)⟩
theorem RnC.op8 (h : RnC w0 fl t B x d0 d2 d3 d5 d8 false W) : RnC w0 fl t B (x.1, x.2.1, x.2.2.1, x.2.2.2.1, W.heap.size, x.2.2.2.2.2) d0 d2 d3 d5 true false (W.alloc (.cells (nilR fl.length).toArray 47)) := by
  have h2 := h.below (new_below W (.cells (nilR fl.length).toArray 47))
  exact ⟨h2.m, h2.a, h2.v1, h2.b, h2.v2, fun _ => ⟨Blk.new _ _ _, h.m.size⟩, (fun h => by cases h)⟩
theorem RnC.op8k {k : Nat} (h : RnC w0 fl t B x d0 d2 d3 d5 d8 false W) (hk : fl.length = k) : RnC w0 fl t B (x.1, x.2.1, x.2.2.1, x.2.2.2.1, W.heap.size, x.2.2.2.2.2) d0 d2 d3 d5 true false (W.alloc (.cells (nilR k).toArray 47)) := by
  subst hk
  exact h.op8
theorem RnC.op10 (h : RnC w0 fl t B x d0 d2 d3 d5 d8 d10 W) (hB : B (x.1, x.2.1, x.2.2.1, x.2.2.2.1, x.2.2.2.2.1, W.heap.size) = B x) : RnC w0 fl t B (x.1, x.2.1, x.2.2.1, x.2.2.2.1, x.2.2.2.2.1, W.heap.size) d0 d2 d3 d5 d8 true (W.alloc (.cells (B x) 88)) := by
  have h2 := h.below (new_below W (.cells (B x) 88))
  exact ⟨h2.m, h2.a, h2.v1, h2.b, h2.v2, h2.g, fun _ => ⟨by rw [hB]; exact Blk.new _ _ _, h.m.size⟩⟩
theorem RnC.op2 {v' : Value} (h : RnC w0 fl t B x true false d3 d5 d8 false W) (ho : W'.ownsRow w0.heap.size 53 5 v' (0 + fl.length) ([] ++ (fl.map veR).flatten)) (hg : W.grownBy W' (Value.slice (some ⟨x.1, 0, none⟩) 0 0).ownBlock) :
    RnC w0 fl t B (x.1, v', x.2.2) true true d3 d5 d8 false W' := by
  have hb := h.a rfl rfl
  have hm : Mod (fun g' => (Value.slice (some ⟨x.1, 0, none⟩) 0 0).ownBlock = some g') W W' := (Mod.refl _ _).grown hg (fun _ h _ => h)
  rw [Nat.zero_add, List.nil_append] at ho
  exact ⟨h.m.step hm (fun r hr e => absurd (own_blk_lt hb e).1 (by omega)), (fun _ h => by cases h), fun _ => ho, fun k l => own_mod (h.b k l) hm (fun g e1 e2 => own_own_ne hb (h.b k l) (by decide) e2 e1), fun k => own_mod (h.v2 k) hm (fun g e1 e2 => own_own_ne hb (h.v2 k) (by decide) e2 e1),
    fun k => ⟨(h.g k).1.mod hm (fun e => own_ne hb e (h.g k).1 (by decide) rfl), (h.g k).2⟩, (fun h => by cases h)⟩
theorem RnC.op5 {v' : Value} (h : RnC w0 fl t B x d0 d2 true false d8 false W) (ho : W'.ownsRow w0.heap.size 72 10 v' (0 + t.length) ([] ++ (t.map rqV).flatten)) (hg : W.grownBy W' (Value.slice (some ⟨x.2.2.1, 0, none⟩) 0 0).ownBlock) :
    RnC w0 fl t B (x.1, x.2.1, x.2.2.1, v', x.2.2.2.2) d0 d2 true true d8 false W' := by
  have hb := h.b rfl rfl
  have hm : Mod (fun g' => (Value.slice (some ⟨x.2.2.1, 0, none⟩) 0 0).ownBlock = some g') W W' := (Mod.refl _ _).grown hg (fun _ h _ => h)
  rw [Nat.zero_add, List.nil_append] at ho
  exact ⟨h.m.step hm (fun r hr e => absurd (own_blk_lt hb e).1 (by omega)), fun k l => own_mod (h.a k l) hm (fun g e1 e2 => own_own_ne hb (h.a k l) (by decide) e2 e1), fun k => own_mod (h.v1 k) hm (fun g e1 e2 => own_own_ne hb (h.v1 k) (by decide) e2 e1), (fun _ h => by cases h), fun _ => ho,
    fun k => ⟨(h.g k).1.mod hm (fun e => own_ne hb e (h.g k).1 (by decide) rfl), (h.g k).2⟩, (fun h => by cases h)⟩
end
theorem agree_trans {ops : Array Oper} {L : List Nat} {a b c : Act} (h1 : Agree ops L a b) (h2 : Agree ops L b c) : Agree ops L a c := fun t ht => (h1 t ht).trans (h2 t ht)
def RnPost (w : World) (fl : List Ve) (t : List Rq) (e : Ending) (w' : World) : Prop :=
  Below w.heap.size w w' ∧ ((newC fl t ≠ 0 ∧ e = .returned (.tuple #[.pointer none, .int .i64 (newC fl t)])) ∨ (newC fl t = 0 ∧ ∃ b gR F, e = .returned (.tuple #[.pointer (some ⟨b, 0, none⟩), .int .i64 0]) ∧ (∀ k, F k → w.heap.size ≤ k) ∧ RplAt w' F b gR fl (rows0 fl) t))
theorem RnC.plan {w0 W : World} {fl : List Ve} {t : List Rq} {x : Nat × Value × Nat × Value × Nat × Nat} {d0 d3 : Bool} (hn : 1 ≤ fl.length ∧ fl.length ≤ 4) (ht : t.length ≤ 1000)
    (h : RnC w0 fl t (fun x => #[x.2.1, x.2.2.2.1, .slice (some ⟨x.2.2.2.2.1, 0, none⟩) fl.length fl.length]) x d0 true d3 true true true W) : ∃ gR F, (∀ k, F k → w0.heap.size ≤ k) ∧ RplAt W F x.2.2.2.2.2 gR fl (rows0 fl) t := by
  have h1 := h.v1 rfl
  have h2 := h.v2 rfl
  obtain ⟨h3, h3b⟩ := h.g rfl
  obtain ⟨h4, h4b⟩ := h.p rfl
  obtain ⟨qF, kF, dF, e1⟩ := own_isS h1
  obtain ⟨qT, kT, dT, e2⟩ := own_isS h2
  rw [e1] at h1
  rw [e2] at h2
  obtain rfl := own_lenC h1
  obtain rfl := own_lenC h2
  obtain ⟨a1, _, _, a4⟩ := own_els (R := fl.map veR) (veR_lenP fl) (by rw [List.length_map]; exact h1) (by rw [List.length_map]; omega)
  obtain ⟨b1, _, _, b4⟩ := own_els (R := t.map rqV) (rqV_len t) (by rw [List.length_map]; exact h2) (by rw [List.length_map]; omega)
  rw [e1, e2] at h4
  have hrl : (rows0 fl).length = fl.length := by simp [rows0]
  have gF : ∀ a, qF = some a → a.block ≠ x.2.2.2.2.1 := fun a ha e => by
    obtain ⟨g, C, e5, hB, _⟩ := ownS_blk h1 (by omega)
    rw [e5] at ha
    cases ha
    exact blk_neR hB h3 (by decide) e
  have gT : ∀ a, qT = some a → t ≠ [] → a.block ≠ x.2.2.2.2.1 := fun a ha h0 e => by
    obtain ⟨g, C, e5, hB, _⟩ := ownS_blk h2 (List.length_pos_iff.2 h0)
    rw [e5] at ha
    cases ha
    exact blk_neR hB h3 (by decide) e
  refine ⟨x.2.2.2.2.1, fun k => w0.heap.size ≤ k ∧ k < W.heap.size, fun k hk => hk.1, qF, dF, qT, dT, qs0 fl, h4, a1, b1, ⟨_, h3⟩, ?_, ?_, ?_, ?_, ?_, ?_, ⟨h4b, h4.lt⟩, ⟨h3b, h3.lt⟩, blk_neR h4 h3 (by decide), fun k hk => hk.2, hrl, by simp [qs0]⟩
  · refine els_litP (E := 47) (n := 1) ?_ (rsV_len _ _ _) (by rw [rsV_size, hrl]; omega)
    rw [nilR_rows]
    exact h3
  · intro i
    rw [rows0_at, qs0_at]
    exact els_nilP _ _ _
  · intro i
    rw [rows0_at, qs0_at]
    exact ⟨Nat.le_refl _, by omega⟩
  · intro i a ha h0
    rw [rows0_at] at h0
    exact absurd rfl h0
  · intro a ha _
    have := a4 a ha
    exact ⟨⟨this.1, this.2.1⟩, gF a ha⟩
  · intro a ha h0
    have := b4 a ha
    exact ⟨⟨this.1, this.2.1⟩, gT a ha h0⟩
set_option maxHeartbeats 4000000 in
set_option maxRecDepth 100000 in
theorem rnew_calls (pF pT : Option Addr) (cF cT : Nat) (fl : List Ve) (t : List Rq) (w : World) (hF : Els w pF 5 (fl.map veR)) (hfl : fl.length ≤ 1000) (hT : Els w pT 10 (t.map rqV)) (ht : t.length ≤ 1000) :
    Calls Tryz.prog 10 #[.slice pF fl.length cF, .slice pT t.length cT] w (RnPost w fl t) := by
  by_cases hbad : fl.length = 0 ∨ 4 < fl.length
  · have hc : newC fl t = 11 := by unfold newC; rw [if_pos hbad]
    unfold RnPost
    rw [hc]
    clear hc hF hT
    by_cases h0 : fl.length = 0
    · rw [h0]
      clear h0 hbad
      go_enter Tryz.func10, Tryz.ntmps10
      go_wp2_with fail
      go_ret2
      first | exact ⟨Below.refl _ _, .inl ⟨by decide, rfl⟩⟩ | exact ⟨Below.refl _ _, rfl⟩
    · have h4 : (4 : Int) < (fl.length : Int) := by omega
      have h0I : ¬ (fl.length : Int) < 1 := by omega
      generalize fl.length = n at *
      clear hbad
      go_enter Tryz.func10, Tryz.ntmps10
      go_wp2_with fail
      go_ret2
      first | exact ⟨Below.refl _ _, .inl ⟨by decide, rfl⟩⟩ | exact ⟨Below.refl _ _, rfl⟩
  have h4 : ¬ (4 : Int) < (fl.length : Int) := by omega
  have h0I : ¬ (fl.length : Int) < 1 := by omega
  have hbig : 1 ≤ fl.length ∧ fl.length ≤ 4 := by omega
  have hN : newC fl t = if fl.any (fun v => vehV v != 0) then 2 else if t.any (fun r => rqE r != 0) then 2 else 0 := by unfold newC; rw [if_neg hbad]
  have hpl := Lib.hid (fun (x : Nat × Value × Nat × Value × Nat × Nat) (d0 d3 : Bool) (w0 W : World) h => RnC.plan (w0 := w0) (W := W) (fl := fl) (t := t) (x := x) (d0 := d0) (d3 := d3) hbig ht h)
  have hrow := rsV_nil fl
  clear hbad
  replace hF := Lib.hid hF
  replace hT := Lib.hid hT
  replace hN := Lib.hid hN
  obtain ⟨n, hn⟩ : ∃ n, fl.length = n := ⟨_, rfl⟩
  obtain ⟨T, hTT⟩ : ∃ T, t.length = T := ⟨_, rfl⟩
  rw [hn] at h4 h0I hbig hfl ⊢
  rw [hTT] at ht ⊢
  replace hn := Lib.hid hn
  replace hTT := Lib.hid hTT
  clear hrow
  go_enter Tryz.func10, Tryz.ntmps10
  go_wp2_with fail
  go_loopw [6] (fun i wx => ∃ k : Nat, k ≤ n ∧ i = .int .i64 k ∧ Hid (∀ (j : Nat) (v : Ve), j < k → fl[j]? = some v → vehV v = 0) ∧ Below w.heap.size w wx) (fun i _ => n - (intOf i).toNat)
  case atStart => exact ⟨0, Nat.zero_le _, rfl, Lib.hid (fun j v h => by omega), Below.refl _ _⟩
  case round =>
    obtain ⟨k, hk, rfl, hR, hb⟩ := hrel
    by_cases hlt : k < n
    · have hltI : (k : Int) < (n : Int) := by omega
      have hk0 : (0 : Int) ≤ (k : Int) := by omega
      have s1 : IntKind.i64.wrap ((k : Int) + 1) = (k : Int) + 1 := IntWalk.i64_in _ (by omega)
      have hkl : k < fl.length := by rw [hn.out]; exact hlt
      obtain ⟨a, rfl⟩ := (hF.out.below hb).some_of (k := k) (by simpa using hkl)
      have hl := Lib.hid (show (loadVar 53 (a.add (k * 5))).run Tryz.prog wr = .ok (.agg (veR fl[k]).toArray) wr from by
        have := (hF.out.below hb).load (P := Tryz.prog) (a := a) rfl (k := k) (by simpa using hkl) (ty := 53) Tryz.underlying53 rfl (by kernel_rfl)
        rw [List.getElem_map] at this
        exact this)
      have hvk := Lib.hid (List.getElem?_eq_getElem hkl)
      have hve := Lib.hid (fun wx => vehicle_ref (fl[k] 0) (fl[k] 1) (fl[k] 2) (fl[k] 3) (fl[k] 4) wx)
      change Hid (∀ wx, Calls Tryz.prog 33 #[.agg (veR fl[k]).toArray] wx fun e w' => e = .returned (.int .i64 (vehV fl[k])) ∧ Below wx.heap.size wx w') at hve
      generalize fl[k] = v at *
      generalize (veR v).toArray = Y at *
      obtain ⟨c, hc⟩ : ∃ c, vehV v = c := ⟨_, rfl⟩
      rw [hc] at hve
      replace hc := Lib.hid hc
      replace hb := Lib.hid hb
      go_wp2_with (refine wpList_load_v rfl 53 _ rfl (a.add (k * 5)) rfl _ hl.out ?_)
      refine (hve.out _).mono ?_
      rintro e w4 ⟨rfl, hb4⟩
      replace hb := Lib.hid (hb.out.trans (hb4.mono hb.out.size))
      clear hb4 hve hl
      by_cases hc0 : c = 0
      · subst hc0
        replace hR := Lib.hid (show ∀ (j : Nat) (v : Ve), j < k + 1 → fl[j]? = some v → vehV v = 0 from fun j u hj hu => by
          by_cases e : j = k
          · subst e; rw [hvk.out] at hu; cases hu; exact hc.out
          · exact hR.out j u (by omega) hu)
        go_wp2_with fail
        go_roundw
        case rel => exact ⟨k + 1, by omega, by simp, hR, hb.out⟩
        case measure => simp [intOf]; omega
      · have hc0' : (c == 0) = false := beq_eq_false_iff_ne.2 hc0
        have h2 := Lib.hid (newC_bad hN.out hvk.out (by rw [hc.out]; exact hc0))
        go_wp2_with fail
        go_ret2
        exact ⟨hb.out, .inl ⟨by rw [h2.out]; decide, by rw [h2.out]; rfl⟩⟩
    · obtain rfl : k = n := by omega
      have hN2 := Lib.hid (newC_ok hN.out (fun j v hj hv => hR.out j v (by rw [← hn.out]; exact hj) hv))
      replace hb := Lib.hid hb
      clear hR
      go_wp2_with fail
      go_loopw [7] (fun i wx => ∃ k : Nat, k ≤ T ∧ i = .int .i64 k ∧ Hid (∀ (j : Nat) (v : Rq), j < k → t[j]? = some v → rqE v = 0) ∧ Below w.heap.size w wx) (fun i _ => T - (intOf i).toNat)
      case atStart => exact ⟨0, Nat.zero_le _, rfl, Lib.hid (fun j v h => by omega), hb.out⟩
      case round =>
        clear hb
        obtain ⟨m, hm, rfl, hR, hb⟩ := hrel
        by_cases hlt2 : m < T
        · have hltI : (m : Int) < (T : Int) := by omega
          have hk0 : (0 : Int) ≤ (m : Int) := by omega
          have s1 : IntKind.i64.wrap ((m : Int) + 1) = (m : Int) + 1 := IntWalk.i64_in _ (by omega)
          have hkl : m < t.length := by rw [hTT.out]; exact hlt2
          obtain ⟨a, rfl⟩ := (hT.out.below hb).some_of (k := m) (by simpa using hkl)
          have hl := Lib.hid (show (loadVar 72 (a.add (m * 10))).run Tryz.prog wr = .ok (.agg (rqV t[m]).toArray) wr from by
            have := (hT.out.below hb).load (P := Tryz.prog) (a := a) rfl (k := m) (by simpa using hkl) (ty := 72) Tryz.underlying72 rfl (by kernel_rfl)
            rw [List.getElem_map] at this
            exact this)
          have hvk := Lib.hid (List.getElem?_eq_getElem hkl)
          have hve := Lib.hid (fun wx => chk_ref (t[m] 0) (t[m] 1) (t[m] 2) (t[m] 3) (t[m] 4) (t[m] 5) (t[m] 6) (t[m] 7) (t[m] 8) (t[m] 9) wx)
          change Hid (∀ wx, Calls Tryz.prog 34 #[.agg (rqV t[m]).toArray] wx fun e w' => e = .returned (.int .i64 (rqE t[m])) ∧ Below wx.heap.size wx w') at hve
          generalize t[m] = v at *
          generalize (rqV v).toArray = Y at *
          obtain ⟨c, hc⟩ : ∃ c, rqE v = c := ⟨_, rfl⟩
          rw [hc] at hve
          replace hc := Lib.hid hc
          replace hb := Lib.hid hb
          go_wp2_with (refine wpList_load_v rfl 72 _ rfl (a.add (m * 10)) rfl _ hl.out ?_)
          refine (hve.out _).mono ?_
          rintro e w4 ⟨rfl, hb4⟩
          replace hb := Lib.hid (hb.out.trans (hb4.mono hb.out.size))
          clear hb4 hve hl
          by_cases hc0 : c = 0
          · subst hc0
            replace hR := Lib.hid (show ∀ (j : Nat) (v : Rq), j < m + 1 → t[j]? = some v → rqE v = 0 from fun j u hj hu => by
              by_cases e : j = m
              · subst e; rw [hvk.out] at hu; cases hu; exact hc.out
              · exact hR.out j u (by omega) hu)
            go_wp2_with fail
            go_roundw
            case rel => exact ⟨m + 1, by omega, by simp, hR, hb.out⟩
            case measure => simp [intOf]; omega
          · have hc0' : (c == 0) = false := beq_eq_false_iff_ne.2 hc0
            have h2 := Lib.hid (show newC fl t = 2 from by
              rw [hN2.out, if_pos]
              exact List.any_eq_true.2 ⟨v, List.mem_of_getElem? hvk.out, by rw [hc.out]; simpa using hc0⟩)
            go_wp2_with fail
            go_ret2
            exact ⟨hb.out, .inl ⟨by rw [h2.out]; decide, by rw [h2.out]; rfl⟩⟩
        · obtain rfl : m = T := by omega
          have h0 := Lib.hid (show newC fl t = 0 from by
            rw [hN2.out, if_neg]
            intro hh
            obtain ⟨v, hv, h2⟩ := List.any_eq_true.1 hh
            obtain ⟨j, hj, rfl⟩ := List.getElem_of_mem hv
            rw [hR.out j _ (by rw [← hTT.out]; exact hj) (List.getElem?_eq_getElem hj)] at h2
            cases h2)
          have hEF := Lib.hid (fun wx (h : Mod (fun _ => False) wr wx) => els_modP (hF.out.below hb) h (fun _ _ _ h => h))
          have hET := Lib.hid (fun wx (h : Mod (fun _ => False) wr wx) => els_modP (hT.out.below hb) h (fun _ _ _ h => h))
          have hFa := Lib.hid (veR_allR fl)
          have hTa := Lib.hid (rqV_allP t)
          have hnL := Lib.hid (show k = (fl.map veR).length from by rw [List.length_map, hn.out])
          have hTL := Lib.hid (show m = (t.map rqV).length from by rw [List.length_map, hTT.out])
          have hn1 := Lib.hid hn.out
          have hTT1 := Lib.hid hTT.out
          clear hR hN hN2 hlt2
          replace hb := Lib.hid hb
          go_upto_region 13 with fail
          refine wp_region_rove (X := Nat × Value × Nat × Value × Nat × Nat) (0, undef, 0, undef, 0, 0) (fun x => [(41, .slice pF k cF), (44, .slice pT m cT), (46, .slice pF k cF), (47, .int .i64 (k : Int)), (5, .int .i64 0)] ++ [(40, .slice (some ⟨x.1, 0, none⟩) 0 0), (42, x.2.1), (43, .slice (some ⟨x.2.2.1, 0, none⟩) 0 0), (45, x.2.2.2.1), (48, .slice (some ⟨x.2.2.2.2.1, 0, none⟩) k k), (49, .agg #[x.2.1, x.2.2.2.1, .slice (some ⟨x.2.2.2.2.1, 0, none⟩) k k]), (50, .pointer (some ⟨x.2.2.2.2.2, 0, none⟩)), (4, .pointer (some ⟨x.2.2.2.2.2, 0, none⟩))])
            (fun x d W' => RnC wr fl t (fun x => #[x.2.1, x.2.2.2.1, .slice (some ⟨x.2.2.2.2.1, 0, none⟩) k k]) x (d 0) (d 2) (d 3) (d 5) (d 8) (d 10) W' ∧ (d 9 = true → d 2 = true ∧ d 5 = true ∧ d 8 = true)) (by kernel_rfl) (by kernel_rfl) (by kernel_rfl) (by kernel_rfl) (fun x => by kernel_rfl)
            ⟨RnC.start (Mod.refl _ _).drew, fun h => by cases h⟩ ?_ ?_
          · intro aF hAF
            have E0 : ∀ x, (aF x).eval (.tmp 0) = .slice pF k cF := by intro x; rw [hAF]; kernel_rfl
            have E1 : ∀ x, (aF x).eval (.tmp 1) = .slice pT m cT := by intro x; rw [hAF]; kernel_rfl
            have T41 : ∀ x, (aF x).tmps[41]? = some (.slice pF k cF) := by intro x; rw [hAF]; kernel_rfl
            have E41 : ∀ x, (aF x).eval (.tmp 41) = .slice pF k cF := by intro x; rw [hAF]; kernel_rfl
            have T44 : ∀ x, (aF x).tmps[44]? = some (.slice pT m cT) := by intro x; rw [hAF]; kernel_rfl
            have E44 : ∀ x, (aF x).eval (.tmp 44) = .slice pT m cT := by intro x; rw [hAF]; kernel_rfl
            have T46 : ∀ x, (aF x).tmps[46]? = some (.slice pF k cF) := by intro x; rw [hAF]; kernel_rfl
            have E46 : ∀ x, (aF x).eval (.tmp 46) = .slice pF k cF := by intro x; rw [hAF]; kernel_rfl
            have T47 : ∀ x, (aF x).tmps[47]? = some (.int .i64 (k : Int)) := by intro x; rw [hAF]; kernel_rfl
            have E47 : ∀ x, (aF x).eval (.tmp 47) = .int .i64 (k : Int) := by intro x; rw [hAF]; kernel_rfl
            have T5 : ∀ x, (aF x).tmps[5]? = some (.int .i64 0) := by intro x; rw [hAF]; kernel_rfl
            have E5 : ∀ x, (aF x).eval (.tmp 5) = .int .i64 0 := by intro x; rw [hAF]; kernel_rfl
            have T40 : ∀ x, (aF x).tmps[40]? = some (.slice (some ⟨x.1, 0, none⟩) 0 0) := by intro x; rw [hAF]; kernel_rfl
            have E40 : ∀ x, (aF x).eval (.tmp 40) = .slice (some ⟨x.1, 0, none⟩) 0 0 := by intro x; rw [hAF]; kernel_rfl
            have T42 : ∀ x, (aF x).tmps[42]? = some (x.2.1) := by intro x; rw [hAF]; kernel_rfl
            have E42 : ∀ x, (aF x).eval (.tmp 42) = x.2.1 := by intro x; rw [hAF]; kernel_rfl
            have T43 : ∀ x, (aF x).tmps[43]? = some (.slice (some ⟨x.2.2.1, 0, none⟩) 0 0) := by intro x; rw [hAF]; kernel_rfl
            have E43 : ∀ x, (aF x).eval (.tmp 43) = .slice (some ⟨x.2.2.1, 0, none⟩) 0 0 := by intro x; rw [hAF]; kernel_rfl
            have T45 : ∀ x, (aF x).tmps[45]? = some (x.2.2.2.1) := by intro x; rw [hAF]; kernel_rfl
            have E45 : ∀ x, (aF x).eval (.tmp 45) = x.2.2.2.1 := by intro x; rw [hAF]; kernel_rfl
            have T48 : ∀ x, (aF x).tmps[48]? = some (.slice (some ⟨x.2.2.2.2.1, 0, none⟩) k k) := by intro x; rw [hAF]; kernel_rfl
            have E48 : ∀ x, (aF x).eval (.tmp 48) = .slice (some ⟨x.2.2.2.2.1, 0, none⟩) k k := by intro x; rw [hAF]; kernel_rfl
            have T49 : ∀ x, (aF x).tmps[49]? = some (.agg #[x.2.1, x.2.2.2.1, .slice (some ⟨x.2.2.2.2.1, 0, none⟩) k k]) := by intro x; rw [hAF]; kernel_rfl
            have E49 : ∀ x, (aF x).eval (.tmp 49) = .agg #[x.2.1, x.2.2.2.1, .slice (some ⟨x.2.2.2.2.1, 0, none⟩) k k] := by intro x; rw [hAF]; kernel_rfl
            have T50 : ∀ x, (aF x).tmps[50]? = some (.pointer (some ⟨x.2.2.2.2.2, 0, none⟩)) := by intro x; rw [hAF]; kernel_rfl
            have E50 : ∀ x, (aF x).eval (.tmp 50) = .pointer (some ⟨x.2.2.2.2.2, 0, none⟩) := by intro x; rw [hAF]; kernel_rfl
            have T4 : ∀ x, (aF x).tmps[4]? = some (.pointer (some ⟨x.2.2.2.2.2, 0, none⟩)) := by intro x; rw [hAF]; kernel_rfl
            have E4 : ∀ x, (aF x).eval (.tmp 4) = .pointer (some ⟨x.2.2.2.2.2, 0, none⟩) := by intro x; rw [hAF]; kernel_rfl
            replace hAF := Lib.hid hAF
            refine ⟨?_, ?_, ?_, ?_, ?_, ?_, ?_, ?_, ?_, ?_, ?_, ?_, ?_, trivial⟩
            · exact opOk3_loud rfl fun x d w' hd hn hc => by
                  have n9 : d 9 = false := hn 9 (by kernel_rfl)
                  have n10 : d 10 = false := hn 10 (by kernel_rfl)
                  obtain ⟨hc, _⟩ := hc
                  rw [n10] at hc
                  have h9' : ∀ q : Prop, d 9 = true → q := fun q h => by rw [n9] at h; cases h
                  refine sk_v (run_bslB rfl (rsl_veR _)) ⟨(w'.heap.size, x.2), (by rw [hAF.out]; exact agree_set 5 (40, .slice (some ⟨x.1, 0, none⟩) 0 0) rfl (by kernel_rfl)), (by intro t hd _; cases hd; exact T40 _), ?_, h9' _⟩
                  show RnC wr fl t (fun x => #[x.2.1, x.2.2.2.1, .slice (some ⟨x.2.2.2.2.1, 0, none⟩) k k]) _ true (d 2) (d 3) (d 5) (d 8) (d 10) _
                  rw [n10]
                  exact hc.op0
            · exact opOk3_quiet _ (by intro x t hd _; cases hd; exact T41 x) (fun _ => rfl) fun x d w' hd hc => sv (run_mov rfl (E0 x)) hc
            · exact opOk3_loud rfl fun x d w' hd hn hc => by
                  have n0 : d 0 = true := hd 0 (by kernel_rfl)
                  have n2 : d 2 = false := hn 2 (by kernel_rfl)
                  have n9 : d 9 = false := hn 9 (by kernel_rfl)
                  have n10 : d 10 = false := hn 10 (by kernel_rfl)
                  obtain ⟨hc, _⟩ := hc
                  rw [n10] at hc
                  have h9' : ∀ q : Prop, d 9 = true → q := fun q h => by rw [n9] at h; cases h
                  rw [n0, n2] at hc
                  refine sk_appE ve_el wr.heap.size hc.m.size _ 0 [] rfl (E40 x) (hc.a rfl rfl) (by omega) pF k cF (fl.map veR) (E41 x) (hEF.out w' hc.m) hnL.out (by omega) hFa.out ?_
                  intro v' w'' h2 h3
                  refine ⟨(x.1, v', x.2.2), (by rw [hAF.out]; exact agree_trans (agree_set 10 (49, .agg #[x.2.1, x.2.2.2.1, .slice (some ⟨x.2.2.2.2.1, 0, none⟩) k k]) rfl (by kernel_rfl)) (agree_set 6 (42, x.2.1) rfl (by kernel_rfl))), (by intro t hd _; cases hd; exact T42 _), ?_, h9' _⟩
                  show RnC wr fl t (fun x => #[x.2.1, x.2.2.2.1, .slice (some ⟨x.2.2.2.2.1, 0, none⟩) k k]) _ (d 0) true (d 3) (d 5) (d 8) (d 10) _
                  rw [n0, n10]
                  rw [← hn1.out] at h2
                  exact hc.op2 h2 h3
            · exact opOk3_loud rfl fun x d w' hd hn hc => by
                  have n9 : d 9 = false := hn 9 (by kernel_rfl)
                  have n10 : d 10 = false := hn 10 (by kernel_rfl)
                  obtain ⟨hc, _⟩ := hc
                  rw [n10] at hc
                  have h9' : ∀ q : Prop, d 9 = true → q := fun q h => by rw [n9] at h; cases h
                  refine sk_v (run_bslB rfl (rsl_rqZP _)) ⟨(x.1, x.2.1, w'.heap.size, x.2.2.2), (by rw [hAF.out]; exact agree_set 7 (43, .slice (some ⟨x.2.2.1, 0, none⟩) 0 0) rfl (by kernel_rfl)), (by intro t hd _; cases hd; exact T43 _), ?_, h9' _⟩
                  show RnC wr fl t (fun x => #[x.2.1, x.2.2.2.1, .slice (some ⟨x.2.2.2.2.1, 0, none⟩) k k]) _ (d 0) (d 2) true (d 5) (d 8) (d 10) _
                  rw [n10]
                  exact hc.op3
            · exact opOk3_quiet _ (by intro x t hd _; cases hd; exact T44 x) (fun _ => rfl) fun x d w' hd hc => sv (run_mov rfl (E1 x)) hc
            · exact opOk3_loud rfl fun x d w' hd hn hc => by
                  have n3 : d 3 = true := hd 3 (by kernel_rfl)
                  have n5 : d 5 = false := hn 5 (by kernel_rfl)
                  have n9 : d 9 = false := hn 9 (by kernel_rfl)
                  have n10 : d 10 = false := hn 10 (by kernel_rfl)
                  obtain ⟨hc, _⟩ := hc
                  rw [n10] at hc
                  have h9' : ∀ q : Prop, d 9 = true → q := fun q h => by rw [n9] at h; cases h
                  rw [n3, n5] at hc
                  refine sk_appE rq_el wr.heap.size hc.m.size _ 0 [] rfl (E43 x) (hc.b rfl rfl) (by omega) pT m cT (t.map rqV) (E44 x) (hET.out w' hc.m) hTL.out (by omega) hTa.out ?_
                  intro v' w'' h2 h3
                  refine ⟨(x.1, x.2.1, x.2.2.1, v', x.2.2.2.2), (by rw [hAF.out]; exact agree_trans (agree_set 10 (49, .agg #[x.2.1, x.2.2.2.1, .slice (some ⟨x.2.2.2.2.1, 0, none⟩) k k]) rfl (by kernel_rfl)) (agree_set 8 (45, x.2.2.2.1) rfl (by kernel_rfl))), (by intro t hd _; cases hd; exact T45 _), ?_, h9' _⟩
                  show RnC wr fl t (fun x => #[x.2.1, x.2.2.2.1, .slice (some ⟨x.2.2.2.2.1, 0, none⟩) k k]) _ (d 0) (d 2) (d 3) true (d 8) (d 10) _
                  rw [n3, n10]
                  rw [← hTT1.out] at h2
                  exact hc.op5 h2 h3
            · exact opOk3_quiet _ (by intro x t hd _; cases hd; exact T46 x) (fun _ => rfl) fun x d w' hd hc => sv (run_mov rfl (E0 x)) hc
            · exact opOk3_quiet _ (by intro x t hd _; cases hd; exact T47 x) (fun _ => rfl) fun x d w' hd hc => sv (run_lenV rfl (E46 x)) hc
            · exact opOk3_loud rfl fun x d w' hd hn hc => by
                  have n9 : d 9 = false := hn 9 (by kernel_rfl)
                  have n10 : d 10 = false := hn 10 (by kernel_rfl)
                  obtain ⟨hc, _⟩ := hc
                  rw [n10] at hc
                  have h9' : ∀ q : Prop, d 9 = true → q := fun q h => by rw [n9] at h; cases h
                  refine sk_v (run_mksA hbig rfl (E47 x) (E47 x)) ⟨(x.1, x.2.1, x.2.2.1, x.2.2.2.1, w'.heap.size, x.2.2.2.2.2), (by rw [hAF.out]; exact agree_trans (agree_set 10 (49, .agg #[x.2.1, x.2.2.2.1, .slice (some ⟨x.2.2.2.2.1, 0, none⟩) k k]) rfl (by kernel_rfl)) (agree_set 9 (48, .slice (some ⟨x.2.2.2.2.1, 0, none⟩) k k) rfl (by kernel_rfl))), (by intro t hd _; cases hd; exact T48 _), ?_, h9' _⟩
                  show RnC wr fl t (fun x => #[x.2.1, x.2.2.2.1, .slice (some ⟨x.2.2.2.2.1, 0, none⟩) k k]) _ (d 0) (d 2) (d 3) (d 5) true (d 10) _
                  rw [n10]
                  exact hc.op8k hn1.out
            · exact opOk3_quiet (fun x => .agg #[x.2.1, x.2.2.2.1, .slice (some ⟨x.2.2.2.2.1, 0, none⟩) k k]) (by intro x t hd _; cases hd; exact T49 x) (fun _ => rfl) fun x d w' hd hc => by
                  have n2 : d 2 = true := hd 2 (by kernel_rfl)
                  have n5 : d 5 = true := hd 5 (by kernel_rfl)
                  have n8 : d 8 = true := hd 8 (by kernel_rfl)
                  exact sv (run_bldRV rfl (E42 x) (E45 x) (E48 x) (own_isS (hc.1.v1 n2)) (own_isS (hc.1.v2 n5))) ⟨hc.1, fun _ => ⟨n2, n5, n8⟩⟩
            · exact opOk3_loud rfl fun x d w' hd hn hc => by
                  have n9 : d 9 = true := hd 9 (by kernel_rfl)
                  have n10 : d 10 = false := hn 10 (by kernel_rfl)
                  obtain ⟨hc, h9⟩ := hc
                  obtain ⟨n2, n5, n8⟩ := h9 n9
                  refine sk_v (run_boxRV rfl (E49 x) (own_isS (hc.v1 n2)) (own_isS (hc.v2 n5))) ⟨(x.1, x.2.1, x.2.2.1, x.2.2.2.1, x.2.2.2.2.1, w'.heap.size), (by rw [hAF.out]; exact agree_trans (agree_set 12 (4, .pointer (some ⟨x.2.2.2.2.2, 0, none⟩)) rfl (by kernel_rfl)) (agree_set 11 (50, .pointer (some ⟨x.2.2.2.2.2, 0, none⟩)) rfl (by kernel_rfl))), (by intro t hd _; cases hd; exact T50 _), ?_, fun _ => ⟨n2, n5, n8⟩⟩
                  exact hc.op10 rfl
            · exact opOk3_quiet (fun x => .pointer (some ⟨x.2.2.2.2.2, 0, none⟩)) (by intro x t hd _; cases hd; exact T4 x) (fun _ => rfl) fun x d w' hd hc => sv (run_asg rfl (E50 x)) hc
            · exact opOk3_quiet _ (by intro x t hd _; cases hd; exact T5 x) (fun _ => rfl) fun x d w' hd hc => sv (run_asg rfl (by rfl)) hc
          · intro x d w' hd hc
            simp only [putAll, List.foldl_cons, List.foldl_nil, List.cons_append, List.nil_append, Act.put, List.setIfInBounds_toArray, List.set_cons_succ, List.set_cons_zero]
            obtain ⟨hc, _⟩ := hc
            have hq := hpl.out x (d 0) (d 3) wr w' (by
              have e2 := hd 2 (by decide)
              have e5 := hd 5 (by decide)
              have e8 := hd 8 (by decide)
              have e10 := hd 10 (by decide)
              rw [e2, e5, e8, e10] at hc
              rw [hn.out]
              exact hc)
            obtain ⟨gR, G, hG, hPl⟩ := hq
            have hbf := hb.out.trans (hc.m.below hb.out.size (fun _ h => h.elim))
            have hfin := Lib.hid (show RnPost w fl t (.returned (.tuple #[.pointer (some ⟨x.2.2.2.2.2, 0, none⟩), .int .i64 0])) w' from ⟨hbf, .inr ⟨h0.out, x.2.2.2.2.2, gR, G, rfl, fun k hk => Nat.le_trans hb.out.size (hG k hk), hPl⟩⟩)
            clear hc hd hPl hG hbf hEF hET hFa hTa hnL hTL hb hpl
            go_wp2_with fail
            go_ret2
            exact hfin.out
end Go.Proofs.YtdmnoogppmckaaaGreat
