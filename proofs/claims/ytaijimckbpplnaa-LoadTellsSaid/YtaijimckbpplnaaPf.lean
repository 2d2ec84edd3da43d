/-
  Layer 8, the program's: Profile.
-/
import Derived.Test.YtaijimckbpplnaaRm
namespace Go.Proofs.Ytaijimckbpplnaa
open Go.RowKit
attribute [local go_sem] Oper.semAt_some

section
variable {P : Program} {T E : TypeId} {n b : Nat}
theorem wpListIn_appG (hT : ElT P T E n b) {F : Fence} {nn : Nat} {ops : Array Oper} {rest : List Oper} {o : Oper} {a : Act} {w : World} {Q : Exit → Act → World → Prop} (hF : ∀ f, F.fn f) (hs : o.semAt F.round a.eval = execOp a.eval o) (hgd : Region.wanted o (yielded ops a.tmps) = true) (x y : Operand)
    (ho : o.op = .call { callee := .builtin .append, args := #[x, y], argTypes := #[T, T] })
    (base : Nat) (hbase : base ≤ w.heap.size) (v : Value) (m : Nat) (xs : List Value) (hx : a.eval x = v) (hown : w.ownsRow base E n v m xs) (hm : m ≤ 100000) (q : Addr) (k c : Nat) (news : List Value) (hy : a.eval y = .slice (some q) k c) (hl : news.length = k * n) (hk : k ≤ 1000)
    (hc : ∀ j u, news[j]? = some u → w.cell? (q.add j) = some u) (h1 : ∀ u ∈ news, u.oneCell' = true)
    (h : ∀ v' w', w'.ownsRow base E n v' (m + k) (xs ++ news) → w.grownBy w' v.ownBlock → wpListIn F nn P ops Q rest (a.put o.dst v') w') : wpListIn F nn P ops Q (o :: rest) a w := by
  obtain ⟨v', w', h2, h3, h4⟩ := run_appG hT base hbase v m xs ho hx hown hm q k c news hy hl hk hc h1
  exact wpListIn_v hF hs hgd v' h2 (h v' w' h3 h4)
end
theorem res_ct {P : Program} {fn : Func} {p q : Tmp} {ty : TypeId} (h : fn.results = #[.cell p ty, .tmp q]) {tmps : Array Value} {w : World} {g : Nat} {v : Value}
    (hp : tmps.getD p undef = .pointer (some ⟨g, 0, none⟩)) (hrun : (loadVar ty ⟨g, 0, none⟩).run P w = .ok v w) :
    (results fn tmps).run P w = .ok (.tuple #[v, tmps.getD q undef]) w := by
  have hp' : tmps[p]?.getD undef = .pointer (some ⟨g, 0, none⟩) := by simpa using hp
  simp [results, h, hp', asAddr, hrun]
theorem run_cellIs {w : World} {g : Nat} {p : Option Addr} {n c : Nat} (h : w.cell? ⟨g, 0, none⟩ = some (.slice p n c)) : (loadVar 37 ⟨g, 0, none⟩).run Try.prog w = .ok (.slice p n c) w := by go_simp
theorem run_bsI {ρ : Operand → Value} {o : Oper} {w : World} {x : Operand} {r : Int} (ho : o.op = .buildSlice 37 1 #[(0, x)]) (hx : ρ x = .int .i64 r) :
    (execOp ρ o).run Try.prog w = .ok (.value (.slice (some ⟨w.heap.size, 0, none⟩) 1 1)) (w.alloc (.cells (inV r).toArray 3)) := by
  unfold execOp
  simp only [ho, hx, List.map_toArray, List.map_cons, List.map_nil, Sem.run_bind, rsl_in, Sem.run_pure, Result.andThen_ok]
/-- where the walk over what is on board stands -/
def PfS (w : World) (base : Nat) (pre : List (Int × Int)) (W : World) : Prop :=
  ∃ q m c, Blk W w.heap.size #[.slice q m c] 37 ∧ W.ownsRow base 3 1 (.slice q m c) pre.length (pre.map fun x => inV x.2).flatten ∧ Below w.heap.size w W
theorem pfS_mod {w : World} {base : Nat} {pre : List (Int × Int)} {A B : World} (h : PfS w base pre A) {S : Nat → Prop} (hm : Mod S A B) (hS : ∀ k, S k → w.heap.size < k ∧ k < base) : PfS w base pre B := by
  obtain ⟨q, m, c, h1, h2, h3⟩ := h
  exact ⟨q, m, c, h1.mod hm (fun s => by have := hS _ s; omega), own_mod h2 hm (fun g hg s => by have := (own_blk_lt h2 hg).1; have := hS _ s; omega), h3.trans (hm.below h3.size (fun k s => by have := hS _ s; omega))⟩
theorem prP_flat (l : List (Int × Int)) (t : List Rq) : ((List.range l.length).map fun (k : Nat) => ((k : Int), onK l t (k + 1))).map (fun x => inV x.2) = ((List.range l.length).map fun i => onK l t (i + 1)).map inV := by
  rw [List.map_map, List.map_map]
  rfl

set_option maxHeartbeats 2000000 in
set_option maxRecDepth 100000 in
theorem profile_calls (p p' : Option Addr) (c c' : Nat) (l : List (Int × Int)) (t : List Rq) (w : World) (hL : Els w p 2 (l.map stV)) (hT : Els w p' 10 (t.map rqV)) :
    Calls Try.prog 8 #[.slice p l.length c, .slice p' t.length c'] w (PrPost w (prP l t)) := by
  have hX : prP l t = if toldP l t ≠ 0 then ([], toldP l t) else ((List.range l.length).map (fun i => onK l t (i + 1)), 0) := rfl
  have ht := Lib.hid (fun wx (h : Below w.heap.size w wx) => told_calls p p' c c' l t wx (hL.below h) (hT.below h))
  have hz := Lib.hid (fun h : toldP l t = 0 => toldP_zero h)
  have hit := Lib.hid (fun W b1 b2 hb h1 h2 h16 hkn => board_iter p p' c c' l t w W b1 b2 hL hT hb h1 h2 h16 hkn)
  generalize prP l t = X at hX ⊢
  generalize toldP l t = tc at hX ht hz
  replace hX := Lib.hid hX
  clear hL hT
  refine calls_of_all fun n => ?_
  refine callsIn_of_wp_marks Try.func8 rfl trivial ?_ rfl
  simp only [Try.ntmps8, List.size_toArray, List.length_cons, List.length_nil, Nat.reduceAdd, Nat.reduceSub, Array.replicate_succ, Array.replicate_zero, List.push_toArray, List.append_toArray, List.nil_append, List.cons_append]
  refine wpIn_wide.2 ?_
  go_upto_region 1 with fail
  refine wp_world' (fun wx => Blk wx w.heap.size #[.slice none 0 0] 37 ∧ Below w.heap.size w wx) ⟨Blk.new _ _ _, new_below _ _⟩ ?_
  rintro w1 ⟨hR1, hb⟩
  replace hR1 := Lib.hid hR1
  go_wp2_with fail
  refine (ht.out _ hb).mono ?_
  rintro e w3 ⟨rfl, hb3⟩
  have hR1 := hR1.out.mod ((Mod.refl (fun _ => False) _).after hb3) (fun h => h)
  replace hb := hb.trans (hb3.mono hb.size)
  clear hb3 ht
  have hlt2 := hR1.lt
  have q1 := hR1.cell (i := 0) rfl
  have f1 := hR1.froz 0
  by_cases t0 : tc = 0
  · subst t0
    obtain ⟨z1, z2⟩ := hz.out rfl
    have hl16 := chkP_len z1
    replace hX : Hid (X = ((List.range l.length).map (fun i => onK l t (i + 1)), 0)) := Lib.hid (by rw [hX.out, if_neg (by simp)])
    replace z2 := Lib.hid z2
    have HR1 := Lib.hid hR1
    clear hz z1 hR1 q1 f1
    go_wp2_with fail
    refine (board_calls _ _ _ _ _ _ _).mono ?_
    rintro e w4 ⟨rfl, rfl⟩
    go_wp2_with fail
    generalize hbT : w3.heap.size = bT at hlt2 ⊢
    obtain ⟨W0, hW0⟩ : ∃ W0, (w3.alloc (.cells #[.slice p l.length c] 26)).alloc (.cells #[.slice p' t.length c'] 33) = W0 := ⟨_, rfl⟩
    have hz : W0.heap.size = bT + 2 := by rw [← hW0, ← hbT]; simp
    have hb0 : Below w.heap.size w W0 := by rw [← hW0]; exact (hb.alloc hb.size _).alloc (by have := hb.size; simp; omega) _
    have k1 : W0.cell? ⟨bT, 0, none⟩ = some (.slice p l.length c) := by rw [← hW0, ← hbT]; exact cellA _ (cellN w3 _ _).1
    have k2 : W0.cell? ⟨bT + 1, 0, none⟩ = some (.slice p' t.length c') := by
      rw [← hW0, ← hbT]
      have := (cellN (w3.alloc (.cells #[.slice p l.length c] 26)) (.slice p' t.length c') 33).1
      simp
    rw [hW0]
    have hS : Blk W0 w.heap.size #[.slice none 0 0] 37 := by
      rw [← hW0]
      exact (HR1.out.alloc _).alloc _
    clear hW0 HR1 hb hbT
    refine (wpIn_wide (n := n)).1 ?_
    refine wp_rangeIter (gf := 42) (lb := #[.pointer (some ⟨bT, 0, none⟩), .pointer (some ⟨bT + 1, 0, none⟩)]) rfl (enters_of Try.func42 (by kernel_rfl) rfl)
      (encs := fun x : Int × Int => #[.int .i64 x.1, .int .i64 x.2]) (fun _ => rfl) (S := fun k => k = W0.heap.size + 2) (Dt := fun k => k < w.heap.size ∨ k = bT ∨ k = bT + 1) (xs := (List.range l.length).map fun (k : Nat) => ((k : Int), onK l t (k + 1)))
      (fun o o' => (by
        have := hit.out ((W0.alloc o).alloc o') bT (bT + 1) ((hb0.alloc hb0.size _).alloc (by have := hb0.size; simp; omega) _) (cellA _ (cellA _ k1)) (cellA _ (cellA _ k2)) hl16 z2.out
        have e : ((W0.alloc o).alloc o').heap.size = W0.heap.size + 2 := by simp
        rw [e] at this
        exact this))
      (by omega) (by have := hb0.size; omega)
      (fun pre W => PfS w (W0.heap.size + 3) pre W)
      (fun _ _ _ => False)
      ?hI ?hIx ?h0 ?hround ?hdone ?hstop
    case h0 => exact ⟨none, 0, 0, hS, World.ownsRow_nil _ _ _ _, hb0⟩
    case hI => exact fun pre A B h hm => pfS_mod h hm (fun k hk => by have := hb0.size; omega)
    case hIx => exact fun c pre A B h hm => h
    case hstop =>
      rintro c0 pre x0 rest W hx h
      exact h.elim
    case hround =>
      rintro pre ⟨i, on⟩ rest W hx hSW hlt ⟨q, m, cq, hR1, hO, hB⟩
      have hk : pre.length < l.length := by have := congrArg List.length hx; simp at this; omega
      have hszW : W0.heap.size + 3 ≤ W.heap.size := hSW _ rfl
      clear hSW hx
      gi_wp2
      refine ⟨Mod.refl _ _, fun W2 hm => ?_⟩
      have hsz := hm.size
      have HR1 := hR1.mod hm (by omega)
      have hO2 := own_mod hO hm (fun g hg s => by have := (own_blk_lt hO hg).1; omega)
      replace hB := hB.trans (hm.below hB.size (fun k s => by have := hb0.size; omega))
      have hld := Lib.hid (run_cellIs (HR1.cell (i := 0) rfl))
      have hOA := Lib.hid (own_mod hO2 ((Mod.refl (fun _ => False) W2).alloc (.cells (inV on).toArray 3)) (fun _ _ h => h))
      have hsA : Hid (W0.heap.size + 3 ≤ (W2.alloc (.cells (inV on).toArray 3)).heap.size) := Lib.hid (by simp; omega)
      clear hR1 hO hO2 hm
      replace hB := Lib.hid hB
      have HR1' := Lib.hid HR1
      clear HR1
      gi_wp2_with (first | (refine wpListIn_load_v (fun _ => trivial) rfl rfl 37 _ rfl ⟨w.heap.size, 0, none⟩ rfl _ hld.out ?_) |
        (refine wpListIn_v (fun _ => trivial) rfl rfl (.slice (some ⟨W2.heap.size, 0, none⟩) 1 1) (run_bsI rfl rfl) ?_) |
        (refine wpListIn_appG in_el (fun _ => trivial) rfl rfl _ _ rfl (W0.heap.size + 3) hsA.out (.slice q m cq) pre.length _ rfl hOA.out (by omega) ⟨W2.heap.size, 0, none⟩ 1 1 (inV on) rfl rfl (by omega) (row_cells (Blk.new W2 _ _)) (in_one _) ?_; intro v3 W4 h3 h4; obtain ⟨p2, m2, c2, rfl⟩ := own_isS h3; have c1 := (grown_blk (HR1'.out.alloc _) hOA.out (by have := hb0.size; omega) h4).cell (i := 0) rfl; have f1 := (grown_blk (HR1'.out.alloc _) hOA.out (by have := hb0.size; omega) h4).froz 0))
      have hb0s := hb0.size
      have hTk : ∀ k, w.heap.size ≤ k → k < bT → (¬ k = W0.heap.size + 2 ∧ ¬ (k < w.heap.size ∨ k = bT ∨ k = bT + 1) ∧ k ≠ W0.heap.size ∧ k ≠ W0.heap.size + 1) := fun k h1 h2 => ⟨by omega, by omega, by omega, by omega⟩
      have hgM := (((Mod.refl (fun k => ¬ k = W0.heap.size + 2 ∧ ¬ (k < w.heap.size ∨ k = bT ∨ k = bT + 1) ∧ k ≠ W0.heap.size ∧ k ≠ W0.heap.size + 1) W2).alloc (.cells (inV on).toArray 3)).grown h4 (fun k hk _ => by have := (own_blk_lt hOA.out hk).1; exact ⟨by omega, by omega, by omega, by omega⟩)).setCell (p := ⟨w.heap.size, 0, none⟩) (fun _ => hTk w.heap.size (Nat.le_refl _) hlt2) (.slice p2 m2 c2)
      have hgR := (grown_blk (HR1'.out.alloc _) hOA.out (by omega) h4).set 0 (.slice p2 m2 c2)
      have hgO := own_mod h3 ((Mod.refl (· = w.heap.size) W4).setCell (p := ⟨w.heap.size, 0, none⟩) (fun _ => rfl) (.slice p2 m2 c2)) (fun g hg e => by have := (own_blk_lt h3 hg).1; omega)
      have hgB := (grown_low (B := w.heap.size) (hB.out.alloc hB.out.size (.cells (inV on).toArray 3)) (by omega) (Nat.le_refl _) hOA.out h4).setCell (p := ⟨w.heap.size, 0, none⟩) (Nat.le_refl _) (.slice p2 m2 c2)
      refine ⟨hgM, p2, m2, c2, hgR, ?_, hgB⟩
      rw [List.map_append, List.flatten_append, List.length_append]
      simpa using hgO
    case hdone =>
      rintro W ⟨q, m, cq, hR1, hO, hB⟩ hD hlt
      rw [prP_flat] at hO
      rw [List.length_map, List.length_range] at hO
      have q1 := hR1.cell (i := 0) rfl
      have f1 := hR1.froz 0
      have hld := Lib.hid (run_cellIs q1)
      have hR2 := Lib.hid (hR1.set 0 (.slice q m cq))
      have hb0s := hb0.size
      have hD2 := Lib.hid (setCell_heap (p := ⟨w.heap.size, 0, none⟩) (v := .slice q m cq) hD (show W0.heap.size ≠ w.heap.size by omega))
      have hB2 := Lib.hid (hB.setCell (p := ⟨w.heap.size, 0, none⟩) (Nat.le_refl _) (.slice q m cq))
      have hO2 := Lib.hid (own_mod hO (((Mod.refl (fun k => k < W0.heap.size + 3) W).setCell (p := ⟨w.heap.size, 0, none⟩) (fun _ => by show w.heap.size < W0.heap.size + 3; omega) (.slice q m cq)).putObj (r := W0.heap.size) (fun _ => by omega) (.deferred none)) (fun g hg e => by have := (own_blk_lt hO hg).1; omega))
      obtain rfl : X = ((List.range l.length).map (fun i => onK l t (i + 1)), 0) := hX.out
      have hcap := own_cap hO
      replace hR1 := Lib.hid hR1
      clear hX hit hS k1 k2 hO hB hD
      go_wp2_with (refine wpList_load_v rfl 37 _ rfl ⟨w.heap.size, 0, none⟩ rfl _ hld.out ?_)
      refine ⟨by simp, .inl ⟨_, _, rfl, run_takeDeferred (by rw [← hz]; exact hD2.out), ?_⟩⟩
      have hEl := own_els (R := (((List.range l.length).map fun i => onK l t (i + 1)).map inV)) (fun x hx => by obtain ⟨y, _, rfl⟩ := List.mem_map.1 hx; rfl) (by rw [List.length_map, List.length_map, List.length_range]; exact hO2.out) (by simp; omega)
      obtain ⟨h1, h2, h3, h4⟩ := hEl
      rw [List.length_map, List.length_map, List.length_range] at h2
      subst h2
      have hk : ((W.setCell ⟨w.heap.size, 0, none⟩ (.slice q l.length cq)).putObj W0.heap.size (.deferred none)).cell? ⟨w.heap.size, 0, none⟩ = some (.slice q l.length cq) := (putObj_cell (by show w.heap.size ≠ _; omega)).trans (hR2.out.cell (i := 0) rfl)
      rw [hz] at h1 hk
      refine ⟨_, res_ct Try.results8 rfl (run_cellIs hk), ⟨⟨q, cq, by simp, by simpa using h3, h1⟩, ?_⟩⟩
      rw [← hz]
      exact below_putObj hB2.out (by omega) _
  · have d1 : (tc == 0) = false := beq_eq_false_iff_ne.2 t0
    have d2 : (tc != 0) = true := by rw [bne, d1]; rfl
    have hX2 : X = ([], tc) := by rw [hX.out, if_pos t0]
    subst hX2
    have HB1 := hR1.set 0 (.slice none 0 0)
    replace hR1 := Lib.hid hR1
    clear hX hz hit
    go_wp2_with fail
    exact ⟨_, res_ct Try.results8 rfl (run_cellIs (HB1.cell (i := 0) rfl)), pr_none (hb.setCell (p := ⟨w.heap.size, 0, none⟩) (Nat.le_refl _) _)⟩
end Go.Proofs.Ytaijimckbpplnaa
