/-
  Layer 13: PlanKnown: the walk.
-/
import Derived.Test.YtdmnoogppmckaaaNk
import Derived.Test.YtdmnoogppmckaaaPj
namespace Go.Proofs.Ytdmnoogppmckaaa
open Go.RowKit

def knV : Ve := rqMk [0, 0, 5, 0, 40]
def knT0 : Rq := rqMk [5, 0, 9, 0, 0, 20, 0, 30, 3, 1]
def knT9 : Rq := rqMk [900, 0, 0, 0, 0, 0, 0, 0, 1, 0]
def knZ : Rq := rqMk [0, 0, 0, 0, 0, 0, 0, 0, 0, 0]
def knF5 : List Ve := [knV, knV, knV, knV, rqMk [0, 0, 0, 0, 0]]
def knF2 : List Ve := [knV, knV]
def knT3 : List Rq := [knT0, knT0, knT9]
theorem kn_n5 : newC knF5 chT = 11 := by decide +kernel
theorem kn_n2 : newC (knF5.drop 3) chT = 2 := by decide +kernel
theorem kn_nZ : newC chF [knZ] = 2 := by decide +kernel
theorem kn_n0 : newC knF2 knT3 = 0 := by decide +kernel
theorem kn_p2 : prcP knF2 (rows0 knF2) knT3 2 = (0, 0, 12) := by decide +kernel
theorem kn_p1 : prcP knF2 (rows0 knF2) knT3 1 = (0, 20, 0) := by decide +kernel
theorem kn_t : ptakP (rows0 knF2) (-1) = (rows0 knF2, 12) := by decide +kernel
theorem kn_w : whereP (rows0 knF2) 7 = -1 := by decide +kernel
theorem kn_tot : totP knF2 (rows0 knF2) knT3 = 0 := by decide +kernel
def knA : Array Value := (veR knV).toArray
def knR : Array Value := (rqV knT0).toArray
def kn9 : Array Value := (rqV knT9).toArray
theorem run_b5 (w : World) : (Instr.buildSlice 22 5 #[(0, .agg (veR knV).toArray), (1, .agg (veR knV).toArray), (2, .agg (veR knV).toArray), (3, .agg (veR knV).toArray), (4, .agg (veR (rqMk [0, 0, 0, 0, 0])).toArray)]).run Try.prog w = .ok (.slice (some ⟨w.heap.size, 0, none⟩) 5 5) (w.alloc (.cells (knF5.map veR).flatten.toArray 29)) := by kernel_rfl
theorem run_b2 (w : World) : (Instr.buildSlice 22 2 #[(0, .agg (veR knV).toArray), (1, .agg (veR knV).toArray)]).run Try.prog w = .ok (.slice (some ⟨w.heap.size, 0, none⟩) 2 2) (w.alloc (.cells (knF2.map veR).flatten.toArray 29)) := by kernel_rfl
theorem run_bR2 (w : World) : (Instr.buildSlice 23 2 #[(0, .agg (rqV knT0).toArray), (1, .agg (rqV knT0).toArray)]).run Try.prog w = .ok (.slice (some ⟨w.heap.size, 0, none⟩) 2 2) (w.alloc (.cells ([knT0, knT0].map rqV).flatten.toArray 37)) := by kernel_rfl
theorem run_bR1 (r : Rq) (w : World) : (Instr.buildSlice 23 1 #[(0, .agg (rqV r).toArray)]).run Try.prog w = .ok (.slice (some ⟨w.heap.size, 0, none⟩) 1 1) (w.alloc (.cells ([r].map rqV).flatten.toArray 37)) := by kernel_rfl
theorem run_bZ (w : World) : (Instr.build 37 #[]).run Try.prog w = .ok (.agg (rqV knZ).toArray) w := by kernel_rfl
theorem run_bV0 (w : World) : (Instr.build 29 #[]).run Try.prog w = .ok (.agg (veR (rqMk [0, 0, 0, 0, 0])).toArray) w := by kernel_rfl
theorem run_bP9 (w : World) : (Instr.build 27 #[(0, .int .i64 900)]).run Try.prog w = .ok (.agg #[.int .i64 900, .int .i64 0]) w := by kernel_rfl
theorem run_b9 (w : World) : (Instr.build 37 #[(0, .agg #[.int .i64 900, .int .i64 0]), (4, .int .i64 1)]).run Try.prog w = .ok (.agg (rqV knT9).toArray) w := by kernel_rfl
section
variable {ρ : Operand → Value} {o : Oper} {w : World}
theorem wpList_selfP {P : Program} {ops : Array Oper} {l : List Oper} {a : Act} {w : World} {Q : Exit → Act → World → Prop} (h : wpList P ops Q l a w) : wpList P ops Q l a w := h
/-- a build of anything, whose run is known -/
theorem run_bldA {ty : TypeId} {parts : Array (Nat × Operand)} {vs : Array (Nat × Value)} {v : Value} (ho : o.op = .build ty parts) (hp : (parts.map fun (i, x) => (i, ρ x)) = vs) (hr : (Instr.build ty vs).run Try.prog w = .ok v w) : (execOp ρ o).run Try.prog w = .ok (.value v) w := by
  unfold execOp
  simp only [ho, hp, Sem.run_bind, hr, Sem.run_pure, Result.andThen_ok]
theorem run_bslA {ty : TypeId} {n : Nat} {parts : Array (Nat × Operand)} {vs : Array (Nat × Value)} {v : Value} {w' : World} (ho : o.op = .buildSlice ty n parts) (hp : (parts.map fun (i, x) => (i, ρ x)) = vs) (hr : (Instr.buildSlice ty n vs).run Try.prog w = .ok v w') : (execOp ρ o).run Try.prog w = .ok (.value v) w' := by
  unfold execOp
  simp only [ho, hp, Sem.run_bind, hr, Sem.run_pure, Result.andThen_ok]
theorem run_ixVk {x : Operand} {a : Addr} {n c : Nat} (ho : o.op = .indexAddr 22 x (.const (.int .i64 0))) (hx : ρ x = .slice (some a) n c) (hn : 0 < n) (hc : ∀ v, ρ (.const v) = v := by intro _; rfl) : (execOp ρ o).run Try.prog w = .ok (.value (.pointer (some (a.add 0)))) w := by
  have h1 : (0 : Int) < (n : Int) := by omega
  unfold execOp
  simp only [ho, hx, hc]
  go_simp
theorem run_ixRk {x : Operand} {a : Addr} {n c : Nat} (ho : o.op = .indexAddr 23 x (.const (.int .i64 0))) (hx : ρ x = .slice (some a) n c) (hn : 0 < n) (hc : ∀ v, ρ (.const v) = v := by intro _; rfl) : (execOp ρ o).run Try.prog w = .ok (.value (.pointer (some (a.add 0)))) w := by
  have h1 : (0 : Int) < (n : Int) := by omega
  unfold execOp
  simp only [ho, hx, hc]
  go_simp
theorem run_callNew {x y : Operand} {a b : Value} (ho : o.op = .call { callee := .value (.func 5), args := #[x, y], argTypes := #[22, 23] }) (hx : ρ x = a) (hy : ρ y = b)
    (hf : ρ (.func 5) = .func (.func 5) #[] #[] := by rfl) : (execOp ρ o).run Try.prog w = .ok (.enter 5 #[a, b]) w := by
  unfold execOp
  simp only [ho]
  go_simp
end
/-- region 6: what lies there, by what is done -/
structure KnC (w0 : World) (a b c e : Nat) (v1 v2 : Value) (p : Nat) (d6 d7 d14 d15 d18 d19 d20 : Bool) (W : World) : Prop where
  m : Mod (fun _ => False) w0 W
  a : d6 = true → Blk W a (knF2.map veR).flatten.toArray 29
  b : d7 = true → d15 = false → W.ownsRow w0.heap.size 37 10 (.slice (some ⟨b, 0, none⟩) 0 0) 0 []
  c : d14 = true → d15 = false → Blk W c ([knT0, knT0].map rqV).flatten.toArray 37
  e : d18 = true → d19 = false → Blk W e ([knT9].map rqV).flatten.toArray 37
  v1 : d15 = true → d19 = false → W.ownsRow w0.heap.size 37 10 v1 2 ([knT0, knT0].map rqV).flatten
  v2 : d19 = true → W.ownsRow w0.heap.size 37 10 v2 3 (knT3.map rqV).flatten
  q : d20 = true → ∃ B gT gM, w0.heap.size ≤ B ∧ PSt B W p gT gM 0 knF2 (rows0 knF2) knT3
section
variable {w0 W : World} {a b c e : Nat} {v1 v2 : Value} {p : Nat} {d6 d7 d14 d15 d18 d19 d20 : Bool}
theorem KnC.start (h : Mod (fun _ => False) w0 W) : KnC w0 a b c e v1 v2 p false false false false false false false W :=
  ⟨h, (fun h => by cases h), (fun h => by cases h), (fun h => by cases h), (fun h => by cases h), (fun h => by cases h), (fun h => by cases h), (fun h => by cases h)⟩
theorem KnC.below {W' : World} (h : KnC w0 a b c e v1 v2 p d6 d7 d14 d15 d18 d19 d20 W) (hb : Below W.heap.size W W') : KnC w0 a b c e v1 v2 p d6 d7 d14 d15 d18 d19 d20 W' := by
  have hm := (Mod.refl (fun _ => False) W).after hb
  exact ⟨h.m.after hb, fun k => (h.a k).mod hm (fun h => h), fun k l => own_mod (h.b k l) hm (fun _ _ h => h), fun k l => (h.c k l).mod hm (fun h => h), fun k l => (h.e k l).mod hm (fun h => h), fun k l => own_mod (h.v1 k l) hm (fun _ _ h => h), fun k => own_mod (h.v2 k) hm (fun _ _ h => h), fun k => by
    obtain ⟨B, gT, gM, hB, hP⟩ := h.q k
    exact ⟨B, gT, gM, hB, hP.below hb⟩⟩
theorem KnC.alloc6 (h : KnC w0 a b c e v1 v2 p d6 d7 d14 d15 d18 d19 d20 W) : KnC w0 W.heap.size b c e v1 v2 p true d7 d14 d15 d18 d19 d20 (W.alloc (.cells (knF2.map veR).flatten.toArray 29)) := by
  have h2 := h.below (new_below W (.cells (knF2.map veR).flatten.toArray 29))
  exact ⟨h2.m, fun _ => Blk.new _ _ _, h2.b, h2.c, h2.e, h2.v1, h2.v2, h2.q⟩
theorem KnC.alloc7 (h : KnC w0 a b c e v1 v2 p d6 d7 d14 d15 d18 d19 d20 W) : KnC w0 a W.heap.size c e v1 v2 p d6 true d14 d15 d18 d19 d20 (W.alloc (.cells #[] 37)) := by
  have h2 := h.below (new_below W (.cells #[] 37))
  exact ⟨h2.m, h2.a, fun _ _ => World.ownsRow_made (base := w0.heap.size) (e := 37) (size := 10) W #[] 0 h.m.size (by unfold maxLen; omega) rfl, h2.c, h2.e, h2.v1, h2.v2, h2.q⟩
theorem KnC.alloc14 (h : KnC w0 a b c e v1 v2 p d6 d7 d14 d15 d18 d19 d20 W) : KnC w0 a b W.heap.size e v1 v2 p d6 d7 true d15 d18 d19 d20 (W.alloc (.cells ([knT0, knT0].map rqV).flatten.toArray 37)) := by
  have h2 := h.below (new_below W (.cells ([knT0, knT0].map rqV).flatten.toArray 37))
  exact ⟨h2.m, h2.a, h2.b, fun _ _ => Blk.new _ _ _, h2.e, h2.v1, h2.v2, h2.q⟩
theorem KnC.alloc18 (h : KnC w0 a b c e v1 v2 p d6 d7 d14 d15 d18 d19 d20 W) : KnC w0 a b c W.heap.size v1 v2 p d6 d7 d14 d15 true d19 d20 (W.alloc (.cells ([knT9].map rqV).flatten.toArray 37)) := by
  have h2 := h.below (new_below W (.cells ([knT9].map rqV).flatten.toArray 37))
  exact ⟨h2.m, h2.a, h2.b, h2.c, fun _ _ => Blk.new _ _ _, h2.v1, h2.v2, h2.q⟩
/-- a block of another size is another block -/
theorem own_sz {base n k : Nat} {E : TypeId} {v : Value} {xs : List Value} (h : W.ownsRow base E n v k xs) {g : Nat} {C : Array Value} {T : TypeId} (hB : Blk W g C T) (hs : ∀ cap, k ≤ cap → v = v → C.size ≠ cap * n ∨ ∀ q d, v = .slice q k d → d ≠ cap) : v.ownBlock ≠ some g := by
  intro e
  rcases h.2 with ⟨hv, _⟩ | ⟨g2, cap, cur, hv, _, hh, hk, _, hsz, _⟩
  · rw [hv] at e; cases e
  · rw [hv] at e
    have e2 : g2 = g := Option.some.inj e
    rw [e2] at hh
    have hB' : W.heap[g]? = some (.cells C T (0, 0)) := hB
    rw [hh] at hB'
    simp only [Option.some.injEq, Obj.cells.injEq] at hB'
    rcases hs cap hk rfl with h1 | h1
    · exact h1 (by rw [← hB'.1]; exact hsz)
    · exact h1 _ _ hv rfl
theorem KnC.app15 {v' : Value} {W' : World} (h : KnC w0 a b c e v1 v2 p d6 true true false d18 false false W) (ho : W'.ownsRow w0.heap.size 37 10 v' (0 + 2) ([] ++ ([knT0, knT0].map rqV).flatten)) (hg : W.grownBy W' (Value.slice (some ⟨b, 0, none⟩) 0 0).ownBlock) :
    KnC w0 a b c e v' v2 p d6 true true true d18 false false W' := by
  have hb := h.b rfl rfl
  have hm : Mod (fun g' => (Value.slice (some ⟨b, 0, none⟩) 0 0).ownBlock = some g') W W' := (Mod.refl _ _).grown hg (fun _ h _ => h)
  exact ⟨h.m.step hm (fun r hr e => absurd (own_blk_lt hb e).1 (by omega)), fun k => (h.a k).mod hm (fun e => own_ne hb e (h.a k) (by decide) rfl), (fun _ h => by cases h), (fun _ h => by cases h), fun k l => (h.e k l).mod hm (fun e => own_sz hb (h.e k l) (fun cap _ _ => by
    by_cases hc : cap = 0
    · subst hc; exact .inl (by decide)
    · exact .inr (fun q d e2 => by cases e2; omega)) e), fun _ _ => ho, (fun h => by cases h), (fun h => by cases h)⟩
theorem KnC.app19 {v' : Value} {W' : World} (h : KnC w0 a b c e v1 v2 p d6 d7 d14 true true false false W) (ho : W'.ownsRow w0.heap.size 37 10 v' (2 + 1) (([knT0, knT0].map rqV).flatten ++ ([knT9].map rqV).flatten)) (hg : W.grownBy W' v1.ownBlock) :
    KnC w0 a b c e v1 v' p d6 d7 d14 true true true false W' := by
  have hb := h.v1 rfl rfl
  have hm : Mod (fun g' => v1.ownBlock = some g') W W' := (Mod.refl _ _).grown hg (fun _ h _ => h)
  exact ⟨h.m.step hm (fun r hr e => absurd (own_blk_lt hb e).1 (by omega)), fun k => (h.a k).mod hm (fun e => own_ne hb e (h.a k) (by decide) rfl), (fun _ h => by cases h), (fun _ h => by cases h), (fun _ h => by cases h), (fun _ h => by cases h), fun _ => ho, (fun h => by cases h)⟩
theorem KnC.new (h : KnC w0 a b c e v1 v2 p true d7 d14 d15 d18 true false W) : ∃ q d, v2 = .slice q 3 d ∧ Calls Try.prog 5 #[.slice (some ⟨a, 0, none⟩) 2 2, .slice q 3 d] W fun e' w' => ∃ p', e' = .returned (.tuple #[.pointer (some ⟨p', 0, none⟩), .int .i64 0]) ∧ KnC w0 a b c e v1 v2 p' true d7 d14 d15 d18 true true w' := by
  have ho := h.v2 rfl
  obtain ⟨q, k, d, rfl⟩ := own_isS ho
  obtain ⟨hE, hk, hd, _⟩ := own_els (R := knT3.map rqV) (rqV_len _) ho (by decide)
  obtain rfl : k = 3 := hk
  have hEa := els_litP (n := 5) (h.a rfl) (veR_lenP _) (by decide)
  refine ⟨q, d, rfl, (pnew_calls (some ⟨a, 0, none⟩) q 2 d knF2 knT3 W hEa (by decide) hE (by decide)).mono ?_⟩
  rintro e' w' ⟨hb, hor⟩
  rcases hor with ⟨h1, _⟩ | ⟨_, p', gT, gM, G, rfl, hG, hPl⟩
  · exact absurd kn_n0 h1
  · have h2 := h.below hb
    exact ⟨p', rfl, h2.m, h2.a, h2.b, h2.c, h2.e, h2.v1, h2.v2, fun _ => ⟨_, gT, gM, h.m.size, PSt.new hG hPl kn_n0 (by decide)⟩⟩
end
set_option maxHeartbeats 16000000 in
set_option maxRecDepth 100000 in
theorem PlanKnown_walk (w : World) : Calls Try.prog 3 #[] w fun e w' => e = .returned (.bool true) ∧ Below w.heap.size w w' := by
  go_enter Try.func3, Try.ntmps3
  go_wp2_with fail
  refine (chapter_calls _).mono ?_
  rintro e w1 ⟨q, q', rfl, hF, hT, hb1⟩
  obtain ⟨aV0, rfl⟩ := hF.some_of (k := 0) (by decide)
  obtain ⟨aT, rfl⟩ := hT.some_of (k := 0) (by decide)
  have hlv := Lib.hid (fun wx (h : Mod (fun _ => False) w1 wx) => (show (loadVar 29 (aV0.add 0)).run Try.prog wx = .ok (.agg (veR knV).toArray) wx from
    (els_modP hF h (fun _ _ _ h => h)).load (P := Try.prog) (a := aV0) rfl (k := 0) (by decide) (ty := 29) Try.underlying29 rfl (by kernel_rfl)))
  have hF1 := Lib.hid hF
  have hT1 := Lib.hid hT
  replace hb1 := Lib.hid hb1
  clear hF hT
  go_upto_region 2 with fail
  refine wp_region_rove (X := Nat) 0 (fun x => [(28, .slice (some aV0) 2 2), (29, .pointer (some (aV0.add 0))), (30, .agg (veR knV).toArray), (31, .slice (some aV0) 2 2), (32, .pointer (some (aV0.add 0))), (33, .agg (veR knV).toArray), (34, .slice (some aV0) 2 2), (35, .pointer (some (aV0.add 0))), (36, .agg (veR knV).toArray), (37, .slice (some aV0) 2 2), (38, .pointer (some (aV0.add 0))), (39, .agg (veR knV).toArray), (40, .agg (veR (rqMk [0, 0, 0, 0, 0])).toArray)] ++ [(41, .slice (some ⟨x, 0, none⟩) 5 5), (3, .slice (some ⟨x, 0, none⟩) 5 5)])
    (fun x d W' => Mod (fun _ => False) w1 W' ∧ (d 13 = true → Blk W' x (knF5.map veR).flatten.toArray 29)) (by kernel_rfl) (by kernel_rfl) (by kernel_rfl) (by kernel_rfl) (fun x => by kernel_rfl)
    ⟨(Mod.refl _ _).drew, fun h => by cases h⟩ ?_ ?_
  · intro aF hAF
    have E1 : ∀ x, (aF x).eval (.tmp 1) = .slice (some aV0) 2 2 := by intro x; rw [hAF]; kernel_rfl
    have T28 : ∀ x, (aF x).tmps[28]? = some (.slice (some aV0) 2 2) := by intro x; rw [hAF]; kernel_rfl
    have E28 : ∀ x, (aF x).eval (.tmp 28) = .slice (some aV0) 2 2 := by intro x; rw [hAF]; kernel_rfl
    have T29 : ∀ x, (aF x).tmps[29]? = some (.pointer (some (aV0.add 0))) := by intro x; rw [hAF]; kernel_rfl
    have E29 : ∀ x, (aF x).eval (.tmp 29) = .pointer (some (aV0.add 0)) := by intro x; rw [hAF]; kernel_rfl
    have T30 : ∀ x, (aF x).tmps[30]? = some (.agg (veR knV).toArray) := by intro x; rw [hAF]; kernel_rfl
    have E30 : ∀ x, (aF x).eval (.tmp 30) = .agg (veR knV).toArray := by intro x; rw [hAF]; kernel_rfl
    have T31 : ∀ x, (aF x).tmps[31]? = some (.slice (some aV0) 2 2) := by intro x; rw [hAF]; kernel_rfl
    have E31 : ∀ x, (aF x).eval (.tmp 31) = .slice (some aV0) 2 2 := by intro x; rw [hAF]; kernel_rfl
    have T32 : ∀ x, (aF x).tmps[32]? = some (.pointer (some (aV0.add 0))) := by intro x; rw [hAF]; kernel_rfl
    have E32 : ∀ x, (aF x).eval (.tmp 32) = .pointer (some (aV0.add 0)) := by intro x; rw [hAF]; kernel_rfl
    have T33 : ∀ x, (aF x).tmps[33]? = some (.agg (veR knV).toArray) := by intro x; rw [hAF]; kernel_rfl
    have E33 : ∀ x, (aF x).eval (.tmp 33) = .agg (veR knV).toArray := by intro x; rw [hAF]; kernel_rfl
    have T34 : ∀ x, (aF x).tmps[34]? = some (.slice (some aV0) 2 2) := by intro x; rw [hAF]; kernel_rfl
    have E34 : ∀ x, (aF x).eval (.tmp 34) = .slice (some aV0) 2 2 := by intro x; rw [hAF]; kernel_rfl
    have T35 : ∀ x, (aF x).tmps[35]? = some (.pointer (some (aV0.add 0))) := by intro x; rw [hAF]; kernel_rfl
    have E35 : ∀ x, (aF x).eval (.tmp 35) = .pointer (some (aV0.add 0)) := by intro x; rw [hAF]; kernel_rfl
    have T36 : ∀ x, (aF x).tmps[36]? = some (.agg (veR knV).toArray) := by intro x; rw [hAF]; kernel_rfl
    have E36 : ∀ x, (aF x).eval (.tmp 36) = .agg (veR knV).toArray := by intro x; rw [hAF]; kernel_rfl
    have T37 : ∀ x, (aF x).tmps[37]? = some (.slice (some aV0) 2 2) := by intro x; rw [hAF]; kernel_rfl
    have E37 : ∀ x, (aF x).eval (.tmp 37) = .slice (some aV0) 2 2 := by intro x; rw [hAF]; kernel_rfl
    have T38 : ∀ x, (aF x).tmps[38]? = some (.pointer (some (aV0.add 0))) := by intro x; rw [hAF]; kernel_rfl
    have E38 : ∀ x, (aF x).eval (.tmp 38) = .pointer (some (aV0.add 0)) := by intro x; rw [hAF]; kernel_rfl
    have T39 : ∀ x, (aF x).tmps[39]? = some (.agg (veR knV).toArray) := by intro x; rw [hAF]; kernel_rfl
    have E39 : ∀ x, (aF x).eval (.tmp 39) = .agg (veR knV).toArray := by intro x; rw [hAF]; kernel_rfl
    have T40 : ∀ x, (aF x).tmps[40]? = some (.agg (veR (rqMk [0, 0, 0, 0, 0])).toArray) := by intro x; rw [hAF]; kernel_rfl
    have E40 : ∀ x, (aF x).eval (.tmp 40) = .agg (veR (rqMk [0, 0, 0, 0, 0])).toArray := by intro x; rw [hAF]; kernel_rfl
    have T41 : ∀ x, (aF x).tmps[41]? = some (.slice (some ⟨x, 0, none⟩) 5 5) := by intro x; rw [hAF]; kernel_rfl
    have E41 : ∀ x, (aF x).eval (.tmp 41) = .slice (some ⟨x, 0, none⟩) 5 5 := by intro x; rw [hAF]; kernel_rfl
    have T3 : ∀ x, (aF x).tmps[3]? = some (.slice (some ⟨x, 0, none⟩) 5 5) := by intro x; rw [hAF]; kernel_rfl
    have E3 : ∀ x, (aF x).eval (.tmp 3) = .slice (some ⟨x, 0, none⟩) 5 5 := by intro x; rw [hAF]; kernel_rfl
    replace hAF := Lib.hid hAF
    refine ⟨?_, ?_, ?_, ?_, ?_, ?_, ?_, ?_, ?_, ?_, ?_, ?_, ?_, ?_, ?_, trivial⟩
    · exact opOk3_quiet _ (by intro x t hd _; cases hd; exact T28 x) (fun _ => rfl) fun x d w' hd hc => sv (run_mov rfl (E1 x)) hc
    · exact opOk3_quiet _ (by intro x t hd _; cases hd; exact T29 x) (fun _ => rfl) fun x d w' hd hc => sv (run_ixVk rfl (E28 x) (by omega)) hc
    · exact opOk3_quiet _ (by intro x t hd _; cases hd; exact T30 x) (fun _ => rfl) fun x d w' hd hc => sv (run_load1 rfl (E29 x) (hlv.out _ hc.1)) hc
    · exact opOk3_quiet _ (by intro x t hd _; cases hd; exact T31 x) (fun _ => rfl) fun x d w' hd hc => sv (run_mov rfl (E1 x)) hc
    · exact opOk3_quiet _ (by intro x t hd _; cases hd; exact T32 x) (fun _ => rfl) fun x d w' hd hc => sv (run_ixVk rfl (E31 x) (by omega)) hc
    · exact opOk3_quiet _ (by intro x t hd _; cases hd; exact T33 x) (fun _ => rfl) fun x d w' hd hc => sv (run_load1 rfl (E32 x) (hlv.out _ hc.1)) hc
    · exact opOk3_quiet _ (by intro x t hd _; cases hd; exact T34 x) (fun _ => rfl) fun x d w' hd hc => sv (run_mov rfl (E1 x)) hc
    · exact opOk3_quiet _ (by intro x t hd _; cases hd; exact T35 x) (fun _ => rfl) fun x d w' hd hc => sv (run_ixVk rfl (E34 x) (by omega)) hc
    · exact opOk3_quiet _ (by intro x t hd _; cases hd; exact T36 x) (fun _ => rfl) fun x d w' hd hc => sv (run_load1 rfl (E35 x) (hlv.out _ hc.1)) hc
    · exact opOk3_quiet _ (by intro x t hd _; cases hd; exact T37 x) (fun _ => rfl) fun x d w' hd hc => sv (run_mov rfl (E1 x)) hc
    · exact opOk3_quiet _ (by intro x t hd _; cases hd; exact T38 x) (fun _ => rfl) fun x d w' hd hc => sv (run_ixVk rfl (E37 x) (by omega)) hc
    · exact opOk3_quiet _ (by intro x t hd _; cases hd; exact T39 x) (fun _ => rfl) fun x d w' hd hc => sv (run_load1 rfl (E38 x) (hlv.out _ hc.1)) hc
    · exact opOk3_quiet _ (by intro x t hd _; cases hd; exact T40 x) (fun _ => rfl) fun x d w' hd hc => sv (run_bldA (vs := #[]) rfl (by kernel_rfl) (run_bV0 _)) hc
    · exact opOk3_loud rfl fun x d w' hd hn hc => by
          refine sk_v (run_bslA rfl (by simp only [List.map_toArray, List.map_cons, List.map_nil, E30, E33, E36, E39, E40]) (run_b5 _)) ⟨w'.heap.size, (by rw [hAF.out]; exact agree_any (by kernel_rfl) (by kernel_rfl)), (by intro t hd _; cases hd; exact T41 _), ?_⟩
          exact ⟨hc.1.alloc _, fun _ => Blk.new _ _ _⟩
    · exact opOk3_quiet (fun x => .slice (some ⟨x, 0, none⟩) 5 5) (by intro x t hd _; cases hd; exact T3 x) (fun _ => rfl) fun x d w' hd hc => sv (run_asg rfl (E41 x)) hc
  · intro x d w' hd hc
    simp only [putAll, List.foldl_cons, List.foldl_nil, List.cons_append, List.nil_append, Act.put, List.setIfInBounds_toArray, List.set_cons_succ, List.set_cons_zero]
    obtain ⟨hm2, hB2⟩ := hc
    replace hB2 := hB2 (hd 13 (by decide))
    have hE5 := els_litP (n := 5) hB2 (veR_lenP _) (by decide)
    have hE2 := els_slice hE5 (i := 3) (j := 5) (m := 5) (by omega) (by omega)
    rw [if_neg (by omega)] at hE2
    change Els w' (some ((⟨x, 0, none⟩ : Addr).add (3 * 5))) 5 ((knF5.drop 3).map veR) at hE2
    rw [addr0P] at hE2
    have hT2 := els_modP hT1.out hm2 (fun _ _ _ h => h)
    have hF2 := els_modP hF1.out hm2 (fun _ _ _ h => h)
    have hn1 := pnew_calls (some ⟨x, 0, none⟩) (some aT) 5 2 knF5 chT w' hE5 (by decide) hT2 (by decide)
    have hbA := Lib.hid (hb1.out.trans (hm2.below hb1.out.size (fun _ h => h.elim)))
    unfold NwPost at hn1
    replace hT2 := Lib.hid hT2
    replace hF2 := Lib.hid hF2
    replace hE2 := Lib.hid hE2
    clear hd hm2 hB2 hE5 hlv hT1 hF1 hb1
    go_wp2_with fail
    refine hn1.mono ?_
    clear hn1
    rintro e w3 ⟨hb3, hor⟩
    rcases hor with ⟨_, rfl⟩ | ⟨h, _⟩
    rotate_left
    · rw [kn_n5] at h; cases h
    rw [kn_n5]
    replace hT2 := Lib.hid (hT2.out.below hb3)
    replace hF2 := Lib.hid (hF2.out.below hb3)
    replace hbA := Lib.hid (hbA.out.trans (hb3.mono hbA.out.size))
    have hn2 := pnew_calls (some ⟨x, 3 * 5, none⟩) (some aT) 2 2 (knF5.drop 3) chT w3 (hE2.out.below hb3) (by decide) hT2.out (by decide)
    unfold NwPost at hn2
    clear hb3 hE2
    go_wp2_with fail
    refine hn2.mono ?_
    clear hn2
    rintro e w4 ⟨hb4, hor⟩
    rcases hor with ⟨_, rfl⟩ | ⟨h, _⟩
    rotate_left
    · rw [kn_n2] at h; cases h
    rw [kn_n2]
    replace hT2 := Lib.hid (hT2.out.below hb4)
    replace hF2 := Lib.hid (hF2.out.below hb4)
    replace hbA := Lib.hid (hbA.out.trans (hb4.mono hbA.out.size))
    have hbZ := new_below w4 (.cells ([knZ].map rqV).flatten.toArray 37)
    have hn3 := pnew_calls (some aV0) (some ⟨w4.heap.size, 0, none⟩) 2 1 chF [knZ] _ (hF2.out.below hbZ) (by decide) (els_litP (n := 10) (Blk.new w4 ([knZ].map rqV).flatten.toArray 37) (rqV_len _) (by decide)) (by decide)
    unfold NwPost at hn3
    replace hT2 := Lib.hid (hT2.out.below hbZ)
    replace hF2 := Lib.hid (hF2.out.below hbZ)
    replace hbA := Lib.hid (hbA.out.trans (hbZ.mono hbA.out.size))
    clear hb4 hbZ
    go_wp2_with (with_reducible refine wpList_selfP ?_; first | (refine wpList_v rfl (.agg (rqV knZ).toArray) (run_bldA (vs := #[]) rfl (by rfl) (run_bZ _)) ?_) | (refine wpList_vw rfl _ (run_bslA (vs := #[(0, .agg (rqV knZ).toArray)]) rfl (by rfl) (run_bR1 knZ _)) ?_))
    refine hn3.mono ?_
    clear hn3
    rintro e w5 ⟨hb5, hor⟩
    rcases hor with ⟨_, rfl⟩ | ⟨h, _⟩
    rotate_left
    · rw [kn_nZ] at h; cases h
    rw [kn_nZ]
    replace hT2 := Lib.hid (hT2.out.below hb5)
    replace hF2 := Lib.hid (hF2.out.below hb5)
    replace hbA := Lib.hid (hbA.out.trans (hb5.mono hbA.out.size))
    have hlv := Lib.hid (fun wx (h : Mod (fun _ => False) w5 wx) => (show (loadVar 29 (aV0.add 0)).run Try.prog wx = .ok (.agg (veR knV).toArray) wx from
      (els_modP hF2.out h (fun _ _ _ h => h)).load (P := Try.prog) (a := aV0) rfl (k := 0) (by decide) (ty := 29) Try.underlying29 rfl (by kernel_rfl)))
    have hlr := Lib.hid (fun wx (h : Mod (fun _ => False) w5 wx) => (show (loadVar 37 (aT.add 0)).run Try.prog wx = .ok (.agg (rqV knT0).toArray) wx from
      (els_modP hT2.out h (fun _ _ _ h => h)).load (P := Try.prog) (a := aT) rfl (k := 0) (by decide) (ty := 37) Try.underlying37 rfl (by kernel_rfl)))
    clear hb5
    go_upto_region 6 with fail
    refine wp_region_rove (X := Nat × Nat × Nat × Nat × Value × Value × Nat) (0, 0, 0, 0, undef, undef, 0) (fun x => [(63, .slice (some aV0) 2 2), (64, .pointer (some (aV0.add 0))), (65, .agg (veR knV).toArray), (66, .slice (some aV0) 2 2), (67, .pointer (some (aV0.add 0))), (68, .agg (veR knV).toArray), (71, .slice (some aT) 2 2), (72, .pointer (some (aT.add 0))), (73, .agg (rqV knT0).toArray), (74, .slice (some aT) 2 2), (75, .pointer (some (aT.add 0))), (76, .agg (rqV knT0).toArray), (79, .agg #[.int .i64 900, .int .i64 0]), (80, .agg (rqV knT9).toArray), (85, .int .i64 0), (11, .int .i64 0)] ++ ([(69, .slice (some ⟨x.1, 0, none⟩) 2 2), (70, .slice (some ⟨x.2.1, 0, none⟩) 0 0), (77, .slice (some ⟨x.2.2.1, 0, none⟩) 2 2), (78, x.2.2.2.2.1), (81, .slice (some ⟨x.2.2.2.1, 0, none⟩) 1 1), (82, x.2.2.2.2.2.1)] ++ [(83, .tuple #[.pointer (some ⟨x.2.2.2.2.2.2, 0, none⟩), .int .i64 0]), (62, .tuple #[.pointer (some ⟨x.2.2.2.2.2.2, 0, none⟩), .int .i64 0]), (84, .pointer (some ⟨x.2.2.2.2.2.2, 0, none⟩)), (10, .pointer (some ⟨x.2.2.2.2.2.2, 0, none⟩))]))
      (fun x d W' => KnC w5 x.1 x.2.1 x.2.2.1 x.2.2.2.1 x.2.2.2.2.1 x.2.2.2.2.2.1 x.2.2.2.2.2.2 (d 6) (d 7) (d 14) (d 15) (d 18) (d 19) (d 20) W') (by kernel_rfl) (by kernel_rfl) (by kernel_rfl) (by kernel_rfl) (fun x => by kernel_rfl)
      (KnC.start (Mod.refl _ _).drew) ?_ ?_
    · intro aF hAF
      have E1 : ∀ x, (aF x).eval (.tmp 1) = .slice (some aV0) 2 2 := by intro x; rw [hAF]; kernel_rfl
      have E2 : ∀ x, (aF x).eval (.tmp 2) = .slice (some aT) 2 2 := by intro x; rw [hAF]; kernel_rfl
      have T63 : ∀ x, (aF x).tmps[63]? = some (.slice (some aV0) 2 2) := by intro x; rw [hAF]; kernel_rfl
      have E63 : ∀ x, (aF x).eval (.tmp 63) = .slice (some aV0) 2 2 := by intro x; rw [hAF]; kernel_rfl
      have T64 : ∀ x, (aF x).tmps[64]? = some (.pointer (some (aV0.add 0))) := by intro x; rw [hAF]; kernel_rfl
      have E64 : ∀ x, (aF x).eval (.tmp 64) = .pointer (some (aV0.add 0)) := by intro x; rw [hAF]; kernel_rfl
      have T65 : ∀ x, (aF x).tmps[65]? = some (.agg (veR knV).toArray) := by intro x; rw [hAF]; kernel_rfl
      have E65 : ∀ x, (aF x).eval (.tmp 65) = .agg (veR knV).toArray := by intro x; rw [hAF]; kernel_rfl
      have T66 : ∀ x, (aF x).tmps[66]? = some (.slice (some aV0) 2 2) := by intro x; rw [hAF]; kernel_rfl
      have E66 : ∀ x, (aF x).eval (.tmp 66) = .slice (some aV0) 2 2 := by intro x; rw [hAF]; kernel_rfl
      have T67 : ∀ x, (aF x).tmps[67]? = some (.pointer (some (aV0.add 0))) := by intro x; rw [hAF]; kernel_rfl
      have E67 : ∀ x, (aF x).eval (.tmp 67) = .pointer (some (aV0.add 0)) := by intro x; rw [hAF]; kernel_rfl
      have T68 : ∀ x, (aF x).tmps[68]? = some (.agg (veR knV).toArray) := by intro x; rw [hAF]; kernel_rfl
      have E68 : ∀ x, (aF x).eval (.tmp 68) = .agg (veR knV).toArray := by intro x; rw [hAF]; kernel_rfl
      have T71 : ∀ x, (aF x).tmps[71]? = some (.slice (some aT) 2 2) := by intro x; rw [hAF]; kernel_rfl
      have E71 : ∀ x, (aF x).eval (.tmp 71) = .slice (some aT) 2 2 := by intro x; rw [hAF]; kernel_rfl
      have T72 : ∀ x, (aF x).tmps[72]? = some (.pointer (some (aT.add 0))) := by intro x; rw [hAF]; kernel_rfl
      have E72 : ∀ x, (aF x).eval (.tmp 72) = .pointer (some (aT.add 0)) := by intro x; rw [hAF]; kernel_rfl
      have T73 : ∀ x, (aF x).tmps[73]? = some (.agg (rqV knT0).toArray) := by intro x; rw [hAF]; kernel_rfl
      have E73 : ∀ x, (aF x).eval (.tmp 73) = .agg (rqV knT0).toArray := by intro x; rw [hAF]; kernel_rfl
      have T74 : ∀ x, (aF x).tmps[74]? = some (.slice (some aT) 2 2) := by intro x; rw [hAF]; kernel_rfl
      have E74 : ∀ x, (aF x).eval (.tmp 74) = .slice (some aT) 2 2 := by intro x; rw [hAF]; kernel_rfl
      have T75 : ∀ x, (aF x).tmps[75]? = some (.pointer (some (aT.add 0))) := by intro x; rw [hAF]; kernel_rfl
      have E75 : ∀ x, (aF x).eval (.tmp 75) = .pointer (some (aT.add 0)) := by intro x; rw [hAF]; kernel_rfl
      have T76 : ∀ x, (aF x).tmps[76]? = some (.agg (rqV knT0).toArray) := by intro x; rw [hAF]; kernel_rfl
      have E76 : ∀ x, (aF x).eval (.tmp 76) = .agg (rqV knT0).toArray := by intro x; rw [hAF]; kernel_rfl
      have T79 : ∀ x, (aF x).tmps[79]? = some (.agg #[.int .i64 900, .int .i64 0]) := by intro x; rw [hAF]; kernel_rfl
      have E79 : ∀ x, (aF x).eval (.tmp 79) = .agg #[.int .i64 900, .int .i64 0] := by intro x; rw [hAF]; kernel_rfl
      have T80 : ∀ x, (aF x).tmps[80]? = some (.agg (rqV knT9).toArray) := by intro x; rw [hAF]; kernel_rfl
      have E80 : ∀ x, (aF x).eval (.tmp 80) = .agg (rqV knT9).toArray := by intro x; rw [hAF]; kernel_rfl
      have T85 : ∀ x, (aF x).tmps[85]? = some (.int .i64 0) := by intro x; rw [hAF]; kernel_rfl
      have E85 : ∀ x, (aF x).eval (.tmp 85) = .int .i64 0 := by intro x; rw [hAF]; kernel_rfl
      have T11 : ∀ x, (aF x).tmps[11]? = some (.int .i64 0) := by intro x; rw [hAF]; kernel_rfl
      have E11 : ∀ x, (aF x).eval (.tmp 11) = .int .i64 0 := by intro x; rw [hAF]; kernel_rfl
      have T69 : ∀ x, (aF x).tmps[69]? = some (.slice (some ⟨x.1, 0, none⟩) 2 2) := by intro x; rw [hAF]; kernel_rfl
      have E69 : ∀ x, (aF x).eval (.tmp 69) = .slice (some ⟨x.1, 0, none⟩) 2 2 := by intro x; rw [hAF]; kernel_rfl
      have T70 : ∀ x, (aF x).tmps[70]? = some (.slice (some ⟨x.2.1, 0, none⟩) 0 0) := by intro x; rw [hAF]; kernel_rfl
      have E70 : ∀ x, (aF x).eval (.tmp 70) = .slice (some ⟨x.2.1, 0, none⟩) 0 0 := by intro x; rw [hAF]; kernel_rfl
      have T77 : ∀ x, (aF x).tmps[77]? = some (.slice (some ⟨x.2.2.1, 0, none⟩) 2 2) := by intro x; rw [hAF]; kernel_rfl
      have E77 : ∀ x, (aF x).eval (.tmp 77) = .slice (some ⟨x.2.2.1, 0, none⟩) 2 2 := by intro x; rw [hAF]; kernel_rfl
      have T78 : ∀ x, (aF x).tmps[78]? = some (x.2.2.2.2.1) := by intro x; rw [hAF]; kernel_rfl
      have E78 : ∀ x, (aF x).eval (.tmp 78) = x.2.2.2.2.1 := by intro x; rw [hAF]; kernel_rfl
      have T81 : ∀ x, (aF x).tmps[81]? = some (.slice (some ⟨x.2.2.2.1, 0, none⟩) 1 1) := by intro x; rw [hAF]; kernel_rfl
      have E81 : ∀ x, (aF x).eval (.tmp 81) = .slice (some ⟨x.2.2.2.1, 0, none⟩) 1 1 := by intro x; rw [hAF]; kernel_rfl
      have T82 : ∀ x, (aF x).tmps[82]? = some (x.2.2.2.2.2.1) := by intro x; rw [hAF]; kernel_rfl
      have E82 : ∀ x, (aF x).eval (.tmp 82) = x.2.2.2.2.2.1 := by intro x; rw [hAF]; kernel_rfl
      have T83 : ∀ x, (aF x).tmps[83]? = some (.tuple #[.pointer (some ⟨x.2.2.2.2.2.2, 0, none⟩), .int .i64 0]) := by intro x; rw [hAF]; kernel_rfl
      have E83 : ∀ x, (aF x).eval (.tmp 83) = .tuple #[.pointer (some ⟨x.2.2.2.2.2.2, 0, none⟩), .int .i64 0] := by intro x; rw [hAF]; kernel_rfl
      have T62 : ∀ x, (aF x).tmps[62]? = some (.tuple #[.pointer (some ⟨x.2.2.2.2.2.2, 0, none⟩), .int .i64 0]) := by intro x; rw [hAF]; kernel_rfl
      have E62 : ∀ x, (aF x).eval (.tmp 62) = .tuple #[.pointer (some ⟨x.2.2.2.2.2.2, 0, none⟩), .int .i64 0] := by intro x; rw [hAF]; kernel_rfl
      have T84 : ∀ x, (aF x).tmps[84]? = some (.pointer (some ⟨x.2.2.2.2.2.2, 0, none⟩)) := by intro x; rw [hAF]; kernel_rfl
      have E84 : ∀ x, (aF x).eval (.tmp 84) = .pointer (some ⟨x.2.2.2.2.2.2, 0, none⟩) := by intro x; rw [hAF]; kernel_rfl
      have T10 : ∀ x, (aF x).tmps[10]? = some (.pointer (some ⟨x.2.2.2.2.2.2, 0, none⟩)) := by intro x; rw [hAF]; kernel_rfl
      have E10 : ∀ x, (aF x).eval (.tmp 10) = .pointer (some ⟨x.2.2.2.2.2.2, 0, none⟩) := by intro x; rw [hAF]; kernel_rfl
      replace hAF := Lib.hid hAF
      refine ⟨?_, ?_, ?_, ?_, ?_, ?_, ?_, ?_, ?_, ?_, ?_, ?_, ?_, ?_, ?_, ?_, ?_, ?_, ?_, ?_, ?_, ?_, ?_, ?_, ?_, ?_, trivial⟩
      · exact opOk3_quiet _ (by intro x t hd _; cases hd; exact T63 x) (fun _ => rfl) fun x d w' hd hc => sv (run_mov rfl (E1 x)) hc
      · exact opOk3_quiet _ (by intro x t hd _; cases hd; exact T64 x) (fun _ => rfl) fun x d w' hd hc => sv (run_ixVk rfl (E63 x) (by omega)) hc
      · exact opOk3_quiet _ (by intro x t hd _; cases hd; exact T65 x) (fun _ => rfl) fun x d w' hd hc => sv (run_load1 rfl (E64 x) (hlv.out _ hc.m)) hc
      · exact opOk3_quiet _ (by intro x t hd _; cases hd; exact T66 x) (fun _ => rfl) fun x d w' hd hc => sv (run_mov rfl (E1 x)) hc
      · exact opOk3_quiet _ (by intro x t hd _; cases hd; exact T67 x) (fun _ => rfl) fun x d w' hd hc => sv (run_ixVk rfl (E66 x) (by omega)) hc
      · exact opOk3_quiet _ (by intro x t hd _; cases hd; exact T68 x) (fun _ => rfl) fun x d w' hd hc => sv (run_load1 rfl (E67 x) (hlv.out _ hc.m)) hc
      · exact opOk3_loud rfl fun x d w' hd hn hc => by
            refine sk_v (run_bslA rfl (by simp only [List.map_toArray, List.map_cons, List.map_nil, E65, E68]) (run_b2 _)) ⟨(w'.heap.size, x.2), (by rw [hAF.out]; exact agree_set 16 (69, .slice (some ⟨x.1, 0, none⟩) 2 2) rfl (by kernel_rfl)), (by intro t hd _; cases hd; exact T69 _), ?_⟩
            exact hc.alloc6
      · exact opOk3_loud rfl fun x d w' hd hn hc => by
            refine sk_v (run_bslA (vs := #[]) rfl (by kernel_rfl) (rsl_rqZP _)) ⟨(x.1, w'.heap.size, x.2.2), (by rw [hAF.out]; exact agree_set 17 (70, .slice (some ⟨x.2.1, 0, none⟩) 0 0) rfl (by kernel_rfl)), (by intro t hd _; cases hd; exact T70 _), ?_⟩
            exact hc.alloc7
      · exact opOk3_quiet _ (by intro x t hd _; cases hd; exact T71 x) (fun _ => rfl) fun x d w' hd hc => sv (run_mov rfl (E2 x)) hc
      · exact opOk3_quiet _ (by intro x t hd _; cases hd; exact T72 x) (fun _ => rfl) fun x d w' hd hc => sv (run_ixRk rfl (E71 x) (by omega)) hc
      · exact opOk3_quiet _ (by intro x t hd _; cases hd; exact T73 x) (fun _ => rfl) fun x d w' hd hc => sv (run_load1 rfl (E72 x) (hlr.out _ hc.m)) hc
      · exact opOk3_quiet _ (by intro x t hd _; cases hd; exact T74 x) (fun _ => rfl) fun x d w' hd hc => sv (run_mov rfl (E2 x)) hc
      · exact opOk3_quiet _ (by intro x t hd _; cases hd; exact T75 x) (fun _ => rfl) fun x d w' hd hc => sv (run_ixRk rfl (E74 x) (by omega)) hc
      · exact opOk3_quiet _ (by intro x t hd _; cases hd; exact T76 x) (fun _ => rfl) fun x d w' hd hc => sv (run_load1 rfl (E75 x) (hlr.out _ hc.m)) hc
      · exact opOk3_loud rfl fun x d w' hd hn hc => by
            refine sk_v (run_bslA rfl (by simp only [List.map_toArray, List.map_cons, List.map_nil, E73, E76]) (run_bR2 _)) ⟨(x.1, x.2.1, w'.heap.size, x.2.2.2), (by rw [hAF.out]; exact agree_set 18 (77, .slice (some ⟨x.2.2.1, 0, none⟩) 2 2) rfl (by kernel_rfl)), (by intro t hd _; cases hd; exact T77 _), ?_⟩
            exact hc.alloc14
      · exact opOk3_loud rfl fun x d w' hd hn hc => by
            have n7 : d 7 = true := hd 7 (by kernel_rfl)
            have n14 : d 14 = true := hd 14 (by kernel_rfl)
            have n15 : d 15 = false := hn 15 (by kernel_rfl)
            have n19 : d 19 = false := hn 19 (by kernel_rfl)
            have n20 : d 20 = false := hn 20 (by kernel_rfl)
            rw [n7, n14, n15, n19, n20] at hc
            refine sk_app rq_el w5.heap.size hc.m.size _ 0 [] rfl (E70 x) (hc.b rfl rfl) (by omega) ⟨x.2.2.1, 0, none⟩ 2 2 ([knT0, knT0].map rqV).flatten (E77 x) rfl (by omega) (row_cells (hc.c rfl rfl)) (by decide) ?_
            intro v' w'' h2 h3
            refine ⟨(x.1, x.2.1, x.2.2.1, x.2.2.2.1, v', x.2.2.2.2.2), (by rw [hAF.out]; exact agree_set 19 (78, x.2.2.2.2.1) rfl (by kernel_rfl)), (by intro t hd _; cases hd; exact T78 _), ?_⟩
            show KnC w5 _ _ _ _ _ _ _ (d 6) (d 7) (d 14) true (d 18) (d 19) (d 20) _
            rw [n7, n14, n19, n20]
            exact hc.app15 h2 h3
      · exact opOk3_quiet _ (by intro x t hd _; cases hd; exact T79 x) (fun _ => rfl) fun x d w' hd hc => sv (run_bldA (vs := #[(0, .int .i64 900)]) rfl (by kernel_rfl) (run_bP9 _)) hc
      · exact opOk3_quiet _ (by intro x t hd _; cases hd; exact T80 x) (fun _ => rfl) fun x d w' hd hc => sv (run_bldA rfl (by simp only [List.map_toArray, List.map_cons, List.map_nil, E79]; rfl) (run_b9 _)) hc
      · exact opOk3_loud rfl fun x d w' hd hn hc => by
            refine sk_v (run_bslA rfl (by simp only [List.map_toArray, List.map_cons, List.map_nil, E80]) (run_bR1 knT9 _)) ⟨(x.1, x.2.1, x.2.2.1, w'.heap.size, x.2.2.2.2), (by rw [hAF.out]; exact agree_set 20 (81, .slice (some ⟨x.2.2.2.1, 0, none⟩) 1 1) rfl (by kernel_rfl)), (by intro t hd _; cases hd; exact T81 _), ?_⟩
            exact hc.alloc18
      · exact opOk3_loud rfl fun x d w' hd hn hc => by
            have n15 : d 15 = true := hd 15 (by kernel_rfl)
            have n18 : d 18 = true := hd 18 (by kernel_rfl)
            have n19 : d 19 = false := hn 19 (by kernel_rfl)
            have n20 : d 20 = false := hn 20 (by kernel_rfl)
            rw [n15, n18, n19, n20] at hc
            refine sk_app rq_el w5.heap.size hc.m.size _ 2 _ rfl (E78 x) (hc.v1 rfl rfl) (by omega) ⟨x.2.2.2.1, 0, none⟩ 1 1 ([knT9].map rqV).flatten (E81 x) rfl (by omega) (row_cells (hc.e rfl rfl)) (by decide) ?_
            intro v' w'' h2 h3
            refine ⟨(x.1, x.2.1, x.2.2.1, x.2.2.2.1, x.2.2.2.2.1, v', x.2.2.2.2.2.2), (by rw [hAF.out]; exact agree_set 21 (82, x.2.2.2.2.2.1) rfl (by kernel_rfl)), (by intro t hd _; cases hd; exact T82 _), ?_⟩
            show KnC w5 _ _ _ _ _ _ _ (d 6) (d 7) (d 14) (d 15) (d 18) true (d 20) _
            rw [n15, n18, n20]
            exact hc.app19 h2 h3
      · exact opOk3_loud rfl fun x d w' hd hn hc => by
            have n6 : d 6 = true := hd 6 (by kernel_rfl)
            have n19 : d 19 = true := hd 19 (by kernel_rfl)
            have n20 : d 20 = false := hn 20 (by kernel_rfl)
            rw [n6, n19, n20] at hc
            obtain ⟨q, dq, e1, hnew⟩ := hc.new
            refine sk (run_callNew rfl (E69 x) ((E82 x).trans e1)) (hnew.mono ?_)
            rintro e w'' ⟨p', rfl, h2⟩
            refine ⟨_, rfl, (x.1, x.2.1, x.2.2.1, x.2.2.2.1, x.2.2.2.2.1, x.2.2.2.2.2.1, p'), (by rw [hAF.out]; exact agree_any2 (m := [(69, .slice (some ⟨x.1, 0, none⟩) 2 2), (70, .slice (some ⟨x.2.1, 0, none⟩) 0 0), (77, .slice (some ⟨x.2.2.1, 0, none⟩) 2 2), (78, x.2.2.2.2.1), (81, .slice (some ⟨x.2.2.2.1, 0, none⟩) 1 1), (82, x.2.2.2.2.2.1)]) (by kernel_rfl) (by kernel_rfl)), (by intro t hd _; cases hd; exact T83 _), ?_⟩
            show KnC w5 _ _ _ _ _ _ _ (d 6) (d 7) (d 14) (d 15) (d 18) (d 19) true _
            rw [n6, n19]
            exact h2
      · exact opOk3_quiet (fun x => .tuple #[.pointer (some ⟨x.2.2.2.2.2.2, 0, none⟩), .int .i64 0]) (by intro x t hd _; cases hd; exact T62 x) (fun _ => rfl) fun x d w' hd hc => sv (run_mov rfl (E83 x)) hc
      · exact opOk3_quiet (fun x => .pointer (some ⟨x.2.2.2.2.2.2, 0, none⟩)) (by intro x t hd _; cases hd; exact T84 x) (fun _ => rfl) fun x d w' hd hc => sv (run_ext rfl (E62 x) rfl) hc
      · exact opOk3_quiet _ (by intro x t hd _; cases hd; exact T85 x) (fun _ => rfl) fun x d w' hd hc => sv (run_ext rfl (E62 x) rfl) hc
      · exact opOk3_quiet (fun x => .pointer (some ⟨x.2.2.2.2.2.2, 0, none⟩)) (by intro x t hd _; cases hd; exact T10 x) (fun _ => rfl) fun x d w' hd hc => sv (run_asg rfl (E84 x)) hc
      · exact opOk3_quiet _ (by intro x t hd _; cases hd; exact T11 x) (fun _ => rfl) fun x d w' hd hc => sv (run_asg rfl (E85 x)) hc
    · intro x d w' hd hc
      simp only [putAll, List.foldl_cons, List.foldl_nil, List.cons_append, List.nil_append, Act.put, List.setIfInBounds_toArray, List.set_cons_succ, List.set_cons_zero]
      obtain ⟨B, gT, gM, hB, hP⟩ := hc.q (hd 20 (by decide))
      have hbB := Lib.hid (hbA.out.trans (hc.m.below hbA.out.size (fun _ h => h.elim)))
      have hB0 : Hid (w.heap.size ≤ B) := Lib.hid (by have := hbA.out.size; have := hc.m.size; omega)
      obtain ⟨xa, xb, xc, xe, xv1, xv2, p⟩ := x
      dsimp only at hP ⊢
      replace hP := Lib.hid hP
      clear hc hd hlv hlr hT2 hF2 hbA
      go_wp2_with fail
      refine (works13_calls _).mono ?_
      rintro e w7 ⟨rfl, hb7⟩
      replace hP := Lib.hid (hP.out.below hb7)
      replace hbB := Lib.hid (hbB.out.trans (hb7.mono hbB.out.size))
      have hp := hP.out.priceE kn_p2 (wf_lit (by omega))
      clear hb7
      go_wp2_with fail
      refine hp.mono ?_
      clear hp
      rintro e w8 ⟨rfl, hb7⟩
      replace hP := Lib.hid (hP.out.below hb7)
      replace hbB := Lib.hid (hbB.out.trans (hb7.mono hbB.out.size))
      have hp := hP.out.priceE kn_p1 (wf_lit (by omega))
      clear hb7
      go_wp2_with fail
      refine hp.mono ?_
      clear hp
      rintro e w9 ⟨rfl, hb7⟩
      replace hP := Lib.hid (hP.out.below hb7)
      replace hbB := Lib.hid (hbB.out.trans (hb7.mono hbB.out.size))
      have hp := hP.out.takeE kn_t (wf_lit (by omega))
      clear hb7
      go_wp2_with fail
      refine hp.mono ?_
      clear hp hP
      rintro e w10 ⟨rfl, hP, hb7⟩
      replace hbB := Lib.hid (hbB.out.trans (hb7.mono hB0.out))
      have hp := hP.wher 7 (wf_lit (by omega))
      rw [kn_w] at hp
      have hro := hP.routes
      replace hP := Lib.hid hP
      clear hb7
      go_wp2_with fail
      refine hp.mono ?_
      clear hp
      rintro e w11 ⟨rfl, rfl⟩
      go_wp2_with fail
      refine hro.mono ?_
      clear hro
      intro e w12 hR
      obtain ⟨hb7, qR, dR, rfl, _, _⟩ := hR.at_
      replace hP := Lib.hid (hP.out.below hb7)
      replace hbB := Lib.hid (hbB.out.trans (hb7.mono hbB.out.size))
      have hl2 : (rows0 knF2).length = 2 := rfl
      rw [hl2]
      have hp := hP.out.totalE kn_tot
      clear hb7 hl2 hR
      go_wp2_with fail
      refine hp.mono ?_
      clear hp hP hB0
      rintro e w13 ⟨rfl, hb7⟩
      replace hbB := Lib.hid (hbB.out.trans (hb7.mono hbB.out.size))
      clear hb7
      go_wp2_with fail
      refine (nil_price 0 _).mono ?_
      rintro e wz ⟨rfl, hb7⟩
      replace hbB := Lib.hid (hbB.out.trans (hb7.mono hbB.out.size))
      clear hb7
      go_wp2_with fail
      refine (nil_put 0 _).mono ?_
      rintro e wz ⟨rfl, hb7⟩
      replace hbB := Lib.hid (hbB.out.trans (hb7.mono hbB.out.size))
      clear hb7
      go_wp2_with fail
      refine (nil_take 0 _).mono ?_
      rintro e wz ⟨rfl, hb7⟩
      replace hbB := Lib.hid (hbB.out.trans (hb7.mono hbB.out.size))
      clear hb7
      go_wp2_with fail
      refine (nil_has 0 _).mono ?_
      rintro e wz ⟨rfl, hb7⟩
      replace hbB := Lib.hid (hbB.out.trans (hb7.mono hbB.out.size))
      clear hb7
      go_wp2_with fail
      refine (nil_where 0 _).mono ?_
      rintro e wz ⟨rfl, hb7⟩
      replace hbB := Lib.hid (hbB.out.trans (hb7.mono hbB.out.size))
      clear hb7
      go_wp2_with fail
      refine (nil_all _).mono ?_
      rintro e wz ⟨rfl, hb7⟩
      replace hbB := Lib.hid (hbB.out.trans (hb7.mono hbB.out.size))
      clear hb7
      go_wp2_with fail
      refine (nil_routes _).mono ?_
      rintro e wz ⟨rfl, hb7⟩
      replace hbB := Lib.hid (hbB.out.trans (hb7.mono hbB.out.size))
      clear hb7
      go_wp2_with fail
      refine (nil_total _).mono ?_
      rintro e wz ⟨rfl, hb7⟩
      replace hbB := Lib.hid (hbB.out.trans (hb7.mono hbB.out.size))
      clear hb7
      go_wp2_with fail
      refine (nil_copy _).mono ?_
      rintro e wz ⟨rfl, hb7⟩
      replace hbB := Lib.hid (hbB.out.trans (hb7.mono hbB.out.size))
      clear hb7
      go_wp2_with fail
      go_ret
      exact ⟨rfl, hbB.out⟩
end Go.Proofs.Ytdmnoogppmckaaa
