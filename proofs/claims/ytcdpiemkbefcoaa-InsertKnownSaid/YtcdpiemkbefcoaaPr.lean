/-
  Layer 11, the laws': pairs.
-/
import Derived.Test.YtcdpiemkbefcoaaRp
import Derived.Sort.CutIn
namespace Go.Proofs.Ytcdpiemkbefcoaa
open Go.RowKit
attribute [local go_sem] Oper.semAt_some

section
variable {F : Fence} {n : Nat} {P : Program} {ops : Array Oper} {rest : List Oper} {o : Oper} {a : Act} {w w' : World} {Q : Exit → Act → World → Prop}
theorem wpListIn_bs1 (hF : ∀ f, F.fn f) (hs : o.semAt F.round a.eval = execOp a.eval o) (hgd : Region.wanted o (yielded ops a.tmps) = true) (t : TypeId) (m i : Nat) (x : Operand) (ho : o.op = .buildSlice t m #[(i, x)])
    (vx : Value) (hx : a.eval x = vx) (v : Value) (w' : World) (hrun : (Instr.buildSlice t m #[(i, vx)]).run P w = .ok v w') (h : wpListIn F n P ops Q rest (a.put o.dst v) w') : wpListIn F n P ops Q (o :: rest) a w :=
  wpListIn_v hF hs hgd v (by unfold execOp; simp only [ho, List.map_toArray, List.map_cons, List.map_nil, hx, Sem.run_bind, hrun, Sem.run_pure, Result.andThen_ok]) h
theorem wpListIn_appG {T E : TypeId} {sz b : Nat} (hT : ElT P T E sz b) (hF : ∀ f, F.fn f) (hs : o.semAt F.round a.eval = execOp a.eval o) (hgd : Region.wanted o (yielded ops a.tmps) = true) (x y : Operand) (ho : o.op = .call { callee := .builtin .append, args := #[x, y], argTypes := #[T, T] })
    (base : Nat) (hbase : base ≤ w.heap.size) (v : Value) (m : Nat) (xs : List Value) (hx : a.eval x = v) (hown : w.ownsRow base E sz v m xs) (hm : m ≤ 100000) (q : Addr) (k c : Nat) (news : List Value) (hy : a.eval y = .slice (some q) k c) (hl : news.length = k * sz) (hk : k ≤ 1000)
    (hc : ∀ j u, news[j]? = some u → w.cell? (q.add j) = some u) (h1 : ∀ u ∈ news, u.oneCell' = true)
    (h : ∀ v' w', w'.ownsRow base E sz v' (m + k) (xs ++ news) → w.grownBy w' v.ownBlock → wpListIn F n P ops Q rest (a.put o.dst v') w') : wpListIn F n P ops Q (o :: rest) a w := by
  obtain ⟨v', w', h2, h3, h4⟩ := run_appG hT base hbase v m xs ho hx hown hm q k c news hy hl hk hc h1
  exact wpListIn_v hF hs hgd v' h2 (h v' w' h3 h4)
end
/-- so many pairs at most (0: all) -/
def prT (n most : Int) : List (Int × Int) := if 0 < most then (prs n).take most.toNat else prs n
structure PrS (w : World) (most : Int) (base : Nat) (pre : List (Int × Int)) (p : Option Addr) (m c : Nat) (W : World) : Prop where
  a : Blk W w.heap.size #[.int .i64 most] 3
  b : Blk W (w.heap.size + 1) #[.slice p m c] 38
  o : W.ownsRow base 41 2 (.slice p m c) pre.length (pre.map stV).flatten
  low : Below w.heap.size w W
theorem PrS.mod {w : World} {most : Int} {base m c : Nat} {pre : List (Int × Int)} {p : Option Addr} {A B : World} (h : PrS w most base pre p m c A) {S : Nat → Prop} (hm : Mod S A B) (hS : ∀ k, S k → w.heap.size + 2 ≤ k ∧ k < base) : PrS w most base pre p m c B :=
  ⟨h.a.mod hm (fun s => by have := hS _ s; omega), h.b.mod hm (fun s => by have := hS _ s; omega), own_mod h.o hm (fun g hg s => by have := hS _ s; have := (own_blk_lt h.o hg).1; omega), h.low.trans (hm.below h.low.size (fun k s => by have := hS _ s; omega))⟩
def PrI (w : World) (most : Int) (pre : List (Int × Int)) (W : World) : Prop := ∃ p m c, PrS w most (w.heap.size + 6) pre p m c W ∧ (0 < most → (pre.length : Int) < most)
def PrX (w : World) (most : Int) (pre : List (Int × Int)) (W : World) : Prop := ∃ p m c, PrS w most (w.heap.size + 6) pre p m c W ∧ 0 < most ∧ (pre.length : Int) = most
theorem own_len {w : World} {base : Nat} {E : TypeId} {n k c m : Nat} {p : Option Addr} {xs : List Value} (h : w.ownsRow base E n (.slice p k c) m xs) : k = m := by
  rcases h.2 with ⟨hv, h0⟩ | ⟨g, cap, cur, hv, _⟩
  · cases hv; exact h0.symm
  · cases hv; rfl
theorem run_cellR {w : World} {g : Nat} {p : Option Addr} {n c : Nat} (h : w.cell? ⟨g, 0, none⟩ = some (.slice p n c)) : (loadVar 38 ⟨g, 0, none⟩).run Try.prog w = .ok (.slice p n c) w := by go_simp

set_option maxHeartbeats 2000000 in
set_option maxRecDepth 100000 in
theorem pairs_calls (n most : Int) (w : World) (hmost : 0 ≤ most ∧ most ≤ 256) : Calls Try.prog 14 #[.int .i64 n, .int .i64 most] w fun e w' => (∃ q d, e = .returned (.slice q (prT n most).length d) ∧ Els w' q 2 ((prT n most).map stV)) ∧ Below w.heap.size w w' := by
  have hle := prs_le n
  have hX : prT n most = if 0 < most then (prs n).take most.toNat else prs n := rfl
  generalize prT n most = X at hX ⊢
  replace hX := Lib.hid hX
  refine calls_of_all fun nn => ?_
  refine callsIn_of_wp_marks Try.func14 rfl trivial ?_ rfl
  simp only [Try.ntmps14, List.size_toArray, List.length_cons, List.length_nil, Nat.reduceAdd, Nat.reduceSub, Array.replicate_succ, Array.replicate_zero, List.push_toArray, List.append_toArray, List.nil_append, List.cons_append]
  refine wpIn_wide.2 ?_
  go_wp2_with fail
  refine (places11_calls _ _).mono ?_
  rintro e w8 ⟨rfl, rfl⟩
  go_wp2_with (refine wpList_v rfl (.bool false) (run_nilF rfl rfl rfl) ?_)
  refine (places11_calls _ _).mono ?_
  rintro e w9 ⟨rfl, rfl⟩
  go_wp2_with fail
  obtain ⟨W0, hW0⟩ : ∃ W0, (((w.alloc (.cells #[.int .i64 most] 3)).alloc (.cells #[.slice none 0 0] 38)).alloc (.cells #[.int .i64 n] 3)).alloc (.cells #[.int .i64 n] 3) = W0 := ⟨_, rfl⟩
  have hz : W0.heap.size = w.heap.size + 4 := by rw [← hW0]; simp
  have hP0 : PrS w most (w.heap.size + 6) [] none 0 0 W0 := by
    rw [← hW0]
    exact ⟨(((Blk.new _ _ _).alloc _).alloc _).alloc _, ((Blk.new' _ _ _ _).alloc _).alloc _, World.ownsRow_nil _ _ _ _, (((new_below _ _).alloc (by simp) _).alloc (by simp; omega) _).alloc (by simp; omega) _⟩
  have k1 : W0.cell? ⟨w.heap.size + 3, 0, none⟩ = some (.int .i64 n) := by
    rw [← hW0]
    have := (cellN (((w.alloc (.cells #[.int .i64 most] 3)).alloc (.cells #[.slice none 0 0] 38)).alloc (.cells #[.int .i64 n] 3)) (.int .i64 n) 3).1
    simpa using this
  rw [hW0]
  clear hW0
  refine (wpIn_wide (n := nn)).1 ?_
  refine wp_rangeIter (gf := 35) (lb := #[.pointer (some ⟨w.heap.size + 3, 0, none⟩)]) rfl (enters_of Try.func35 (by kernel_rfl) rfl)
    (encs := fun x : Int × Int => #[.int .i64 x.1, .int .i64 x.2]) (fun _ => rfl) (S := fun _ => False) (Dt := fun k => k < w.heap.size ∨ k = w.heap.size + 3) (xs := prs n)
    (fun o o' => places11_iter n w _ (w.heap.size + 3) ((hP0.low.alloc hP0.low.size _).alloc (by have := hP0.low.size; simp; omega) _) (cellA _ (cellA _ k1)))
    ⟨fun h => h, fun h => h⟩ (by omega)
    (fun pre W => PrI w most pre W)
    (fun c pre W => c = .exit 0 ∧ PrX w most pre W)
    ?hI ?hIx ?h0 ?hround ?hdone ?hstop
  case h0 => exact ⟨_, _, _, hP0, fun h => by simpa using h⟩
  case hI => exact fun pre A B ⟨p, m, c, h, h1⟩ hm => ⟨p, m, c, h.mod hm (fun k hk => by rcases hk with h | h; exact h.elim; omega), h1⟩
  case hIx => exact fun _ pre A B ⟨h0, p, m, c, h, h1⟩ hm => ⟨h0, p, m, c, h.mod hm (fun k hk => by rcases hk with h | h; exact h.elim; omega), h1⟩
  case hround =>
    rintro pre ⟨x1, x2⟩ rest W hx hSW hlt ⟨p, m, c, hP, hn⟩
    have hpl : pre.length + 1 ≤ 306 := by rw [hx] at hle; simp at hle; omega
    gi_wp2
    refine ⟨Mod.refl _ _, fun W2 hm => ?_⟩
    have hsz := hm.size
    replace hP := hP.mod hm (fun k s => by omega)
    have kb := hP.b.cell (i := 0) rfl
    have ka := hP.a.cell (i := 0) rfl
    have hb2 := hP.b.lt
    have hPA := Lib.hid hP
    have hoA := Lib.hid (own_mod hP.o ((Mod.refl (fun _ => False) W2).alloc (.cells (stV (x1, x2)).toArray 41)) (fun _ _ h => h))
    have hsA := Lib.hid (show w.heap.size + 6 ≤ (W2.alloc (.cells (stV (x1, x2)).toArray 41)).heap.size by simp; omega)
    replace hn := Lib.hid hn
    clear hm hP hx hSW
    gi_upto_region 8 with (first | (refine wpListIn_bs1 (fun _ => trivial) rfl rfl 38 1 0 _ rfl (.agg #[.int .i64 x1, .int .i64 x2]) rfl _ _ (rsl_ar x1 x2 _) ?_) |
      (refine wpListIn_appG ar_el (fun _ => trivial) rfl rfl _ _ rfl (w.heap.size + 6) hsA.out _ _ _ rfl hoA.out (by omega) _ 1 1 (stV (x1, x2)) rfl rfl (by omega) (row_cells (Blk.new _ _ _)) (st_one _) ?_; intro v' w13 hown' hg'; obtain ⟨p2, m2, c2, rfl⟩ := own_isS hown'; obtain rfl := own_len hown';
        have hBg := grown_blk (hPA.out.b.alloc (.cells (stV (x1, x2)).toArray 41)) hoA.out (by omega) hg'; have ck := hBg.cell (i := 0) rfl; have cf := hBg.froz 0))
    have hS3 : PrS w most (w.heap.size + 6) (pre ++ [(x1, x2)]) p2 (pre.length + 1) c2 (w13.setCell ⟨w.heap.size + 1, 0, none⟩ (.slice p2 (pre.length + 1) c2)) := by
      have hm2 : Mod (fun k => k = w.heap.size + 1) w13 (w13.setCell ⟨w.heap.size + 1, 0, none⟩ (.slice p2 (pre.length + 1) c2)) := (Mod.refl (fun k => k = w.heap.size + 1) w13).setCell (p := ⟨w.heap.size + 1, 0, none⟩) (fun _ => rfl) _
      refine ⟨(grown_blk (hPA.out.a.alloc _) hoA.out (by omega) hg').mod hm2 (by omega), hBg.set 0 _, ?_, (grown_low (hPA.out.low.alloc hPA.out.low.size _) (by omega) (Nat.le_refl _) hoA.out hg').setCell (by simp) _⟩
      have := own_mod hown' hm2 (fun g hg s => by have := (own_blk_lt hown' hg).1; omega)
      rw [List.map_append, List.flatten_append, List.length_append]
      simpa using this
    have hM3 : Mod (fun k => ¬ False ∧ ¬ (k < w.heap.size ∨ k = w.heap.size + 3) ∧ k ≠ W0.heap.size ∧ k ≠ W0.heap.size + 1) W2 (w13.setCell ⟨w.heap.size + 1, 0, none⟩ (.slice p2 (pre.length + 1) c2)) := by
      refine Mod.setCell (Mod.grown ((Mod.refl _ W2).alloc _) hg' (fun k hk _ => ?_)) (fun _ => ?_) _
      · have := (own_blk_lt hoA.out hk).1
        exact ⟨fun h => h, by omega, by omega, by omega⟩
      · show _ ∧ ¬ (w.heap.size + 1 < _ ∨ w.heap.size + 1 = _) ∧ w.heap.size + 1 ≠ _ ∧ w.heap.size + 1 ≠ _
        exact ⟨fun h => h, by omega, by omega, by omega⟩
    refine wpIn_world (fun wx => PrS w most (w.heap.size + 6) (pre ++ [(x1, x2)]) p2 (pre.length + 1) c2 wx ∧ Mod (fun k => ¬ False ∧ ¬ (k < w.heap.size ∨ k = w.heap.size + 3) ∧ k ≠ W0.heap.size ∧ k ≠ W0.heap.size + 1) W2 wx) ⟨hS3, hM3⟩ ?_
    clear hS3 hM3 hBg ck cf hown' hg' hoA hsA hPA ka kb
    rintro w4 ⟨hP, hM⟩
    have ka := hP.a.cell (i := 0) rfl
    have kb := hP.b.cell (i := 0) rfl
    replace hP := Lib.hid hP
    replace hM := Lib.hid hM
    by_cases c1 : most > 0
    · have hlp := hn.out c1
      by_cases c2 : (pre.length : Int) + 1 ≥ most
      · have hI : Hid (PrX w most (pre ++ [(x1, x2)]) w4) := Lib.hid ⟨p2, _, _, hP.out, c1, by simp; omega⟩
        clear hn hP
        gi_wp2
        exact ⟨hM.out.mono (fun k _ h => by omega), rfl, hI.out⟩
      · have hI : Hid (PrI w most (pre ++ [(x1, x2)]) w4) := Lib.hid ⟨p2, _, _, hP.out, fun _ => by simp; omega⟩
        clear hn hP
        gi_wp2
        exact ⟨hM.out.mono (fun k _ h => by omega), hI.out⟩
    · have hI : Hid (PrI w most (pre ++ [(x1, x2)]) w4) := Lib.hid ⟨p2, _, _, hP.out, fun h => by omega⟩
      clear hn hP
      gi_wp2
      exact ⟨hM.out.mono (fun k _ h => by omega), hI.out⟩
  case hdone =>
    rintro W ⟨p, m, c, hP, hn⟩ hD hlt
    obtain rfl := own_len hP.o
    obtain rfl : X = prs n := by
      rw [hX.out]
      by_cases c1 : 0 < most
      · rw [if_pos c1]
        exact List.take_of_length_le (by have := hn c1; omega)
      · rw [if_neg c1]
    have hEl := own_els (stV_len (prs n)) (by rw [List.length_map]; exact hP.o) (by rw [List.length_map]; omega)
    have kb := hP.b.cell (i := 0) rfl
    have hE := Lib.hid hEl.1
    have hbl := Lib.hid (fun a (ha : p = some a) (h : a.block = W0.heap.size) => (by have := (hEl.2.2.2 a ha).1; omega : False))
    have hb := Lib.hid hP.low
    have hD := Lib.hid hD
    clear hP hn hEl hX hP0 k1
    go_wp2
    refine ⟨by simp, .inl ⟨_, _, rfl, run_takeDeferred hD.out, ?_⟩⟩
    exact ⟨_, results_tmp rfl _ _ _, ⟨⟨_, _, rfl, hE.out.mod ((Mod.refl (fun k => k = W0.heap.size) W).putObj (fun _ => rfl) _) (hbl.out)⟩, below_putObj hb.out (by omega) _⟩⟩
  case hstop =>
    rintro c0 pre x0 rest W hx ⟨rfl, p, m, c, hP, h1, h2⟩ hD hlt
    obtain rfl := own_len hP.o
    obtain rfl : X = pre ++ [x0] := by
      rw [hX.out, if_pos h1, hx, ← h2, Int.toNat_natCast, show pre ++ x0 :: rest = (pre ++ [x0]) ++ rest by simp, List.take_left]
    have hEl := own_els (stV_len (pre ++ [x0])) (by rw [List.length_map]; exact hP.o) (by rw [List.length_map, List.length_append]; rw [hx] at hle; simp at hle ⊢; omega)
    have kb := hP.b.cell (i := 0) rfl
    have hE := Lib.hid hEl.1
    have hbl := Lib.hid (fun a (ha : p = some a) (h : a.block = W0.heap.size) => (by have := (hEl.2.2.2 a ha).1; omega : False))
    have hb := Lib.hid hP.low
    have hD := Lib.hid hD
    clear hP hEl hX hP0 k1
    refine wpIn_wide.2 ?_
    go_wp2
    refine ⟨by simp, .inl ⟨_, _, rfl, run_takeDeferred hD.out, ?_⟩⟩
    exact ⟨_, results_tmp rfl _ _ _, ⟨⟨_, _, by rw [List.length_append]; rfl, hE.out.mod ((Mod.refl (fun k => k = W0.heap.size) W).putObj (fun _ => rfl) _) (hbl.out)⟩, below_putObj hb.out (by omega) _⟩⟩
end Go.Proofs.Ytcdpiemkbefcoaa
