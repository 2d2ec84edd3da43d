/-
  Layer 13, the document's: Same, Ints; layer 6's Same.
  Layer 13, the document's: a draft of vehicles and requests: Parts.
  Layer 13: the chapter's examples: chapter, pair.
-/
import Derived.Test.YtdmnoogppmckaaaGreatPj
import Derived.Test.YtdmnoogppmckaaaGreatDp
namespace Go.Proofs.YtdmnoogppmckaaaGreat
open Go.RowKit

theorem run_neqV (w : World) (a b c d : Int) : (binOp .neq 75 (.agg #[.int .i64 a, .int .i64 b]) (.agg #[.int .i64 c, .int .i64 d])).run Tryz.prog w = .ok (.bool (((a, b) : Int × Int) != (c, d))) w := by
  by_cases h1 : a = c <;> by_cases h2 : b = d <;> go_simp <;> simp_all [bne, BEq.beq]
theorem run_neqSt {ρ : Operand → Value} {o : Oper} {w : World} {x y : Operand} {s u : Int × Int} (ho : o.op = .binOp .neq 75 x y 75) (hx : ρ x = .agg #[.int .i64 s.1, .int .i64 s.2]) (hy : ρ y = .agg #[.int .i64 u.1, .int .i64 u.2]) :
    (execOp ρ o).run Tryz.prog w = .ok (.value (.bool (s != u))) w := by
  unfold execOp
  simp only [ho, hx, hy, Sem.run_bind, run_neqV, Sem.run_pure]
  go_simp
theorem run_notS {ρ : Operand → Value} {o : Oper} {w : World} {x : Operand} {b : Bool} (ho : o.op = .unOp .not 4 x) (hx : ρ x = .bool b) : (execOp ρ o).run Tryz.prog w = .ok (.value (.bool (!b))) w := by
  unfold execOp
  simp only [ho, hx]
  go_simp
theorem run_ixRs {ρ : Operand → Value} {o : Oper} {w : World} {x y : Operand} {a : Addr} {n c k : Nat} (ho : o.op = .indexAddr 45 x y) (hx : ρ x = .slice (some a) n c) (hy : ρ y = .int .i64 k) (hk : k < n) : (execOp ρ o).run Tryz.prog w = .ok (.value (.pointer (some (a.add k)))) w := by
  have h0 : (0 : Int) ≤ (k : Int) := by omega
  have h1 : (k : Int) < (n : Int) := by omega
  have h2 : ((k : Int)).toNat = k := by omega
  unfold execOp
  simp only [ho, hx, hy]
  go_simp
theorem run_callSm {ρ : Operand → Value} {o : Oper} {w : World} {x y : Operand} {a b : Value} (ho : o.op = .call { callee := .value (.func 48), args := #[x, y], argTypes := #[47, 47] }) (hx : ρ x = a) (hy : ρ y = b)
    (hf : ρ (.func 48) = .func (.func 48) #[] #[] := by rfl) : (execOp ρ o).run Tryz.prog w = .ok (.enter 48 #[a, b]) w := by
  unfold execOp
  simp only [ho]
  go_simp
set_option maxHeartbeats 1000000 in
set_option maxRecDepth 100000 in
/-- are both rows alike? -/
theorem rints_calls (p q : Option Addr) (c d : Nat) (A B : List Int) (w : World) (hA : Els w p 1 (A.map inV)) (hB : Els w q 1 (B.map inV)) :
    Calls Tryz.prog 27 #[.slice p A.length c, .slice q B.length d] w fun e w' => e = .returned (.bool (decide (A = B))) ∧ Below w.heap.size w w' := by
  have hbig : A.length ≤ 140737488351232 := by simpa using hA.big
  have hbig2 : B.length ≤ 140737488351232 := by simpa using hB.big
  replace hA := Lib.hid hA
  replace hB := Lib.hid hB
  by_cases hl : A.length = B.length
  · have hX : Hid (decide (A = B) = true ↔ ∀ k (h1 : k < A.length) (h2 : k < B.length), A[k] = B[k]) := Lib.hid ⟨fun h k h1 h2 => by have e := of_decide_eq_true h; subst e; rfl, fun h => decide_eq_true (List.ext_getElem hl (fun k h1 h2 => h k h1 h2))⟩
    generalize decide (A = B) = X at *
    go_enter Tryz.func27, Tryz.ntmps27
    rw [← hl]
    replace hl := Lib.hid hl
    go_wp2_with fail
    go_loopw [5] (fun s5 wx => ∃ k : Nat, k ≤ A.length ∧ s5 = .int .i64 k ∧ Hid (∀ j (h1 : j < A.length) (h2 : j < B.length), j < k → A[j] = B[j]) ∧ ∃ m, wx = w.drewN m) (fun s5 _ => A.length - (intOf s5).toNat)
    case atStart => exact ⟨0, Nat.zero_le _, rfl, Lib.hid (fun j _ _ h => by omega), 0, rfl⟩
    case round =>
      obtain ⟨k, hk, rfl, hR, m, rfl⟩ := hrel
      by_cases hlt : k < A.length
      · have hltI : (k : Int) < (A.length : Int) := by omega
        have hk0 : (0 : Int) ≤ (k : Int) := by omega
        have s1 : IntKind.i64.wrap ((k : Int) + 1) = (k : Int) + 1 := IntWalk.i64_in _ (by omega)
        have hlb : k < B.length := by rw [← hl.out]; exact hlt
        obtain ⟨a, ha⟩ := hA.out.some_of (k := k) (by simpa using hlt)
        subst ha
        obtain ⟨b, hb⟩ := hB.out.some_of (k := k) (by simpa using hlb)
        subst hb
        have ca : ∀ n, (w.drewN n).cell? (a.add k) = some (.int .i64 A[k]) := fun n => by
          have := hA.out.cells a rfl k (inV A[k]) 0 (.int .i64 A[k]) (by rw [List.getElem?_map, List.getElem?_eq_getElem hlt]; rfl) rfl
          rw [Nat.mul_one, Nat.add_zero] at this
          exact this
        have cb : ∀ n, (w.drewN n).cell? (b.add k) = some (.int .i64 B[k]) := fun n => by
          have := hB.out.cells b rfl k (inV B[k]) 0 (.int .i64 B[k]) (by rw [List.getElem?_map, List.getElem?_eq_getElem hlb]; rfl) rfl
          rw [Nat.mul_one, Nat.add_zero] at this
          exact this
        have hno : Hid (A[k] ≠ B[k] → X = false) := Lib.hid (fun h => by
          cases X with
          | false => rfl
          | true => exact absurd (hX.out.1 rfl k hlt hlb) h)
        have hR' : Hid (A[k] = B[k] → ∀ j (h1 : j < A.length) (h2 : j < B.length), j < k + 1 → A[j] = B[j]) := Lib.hid (fun h j h1 h2 hj => by
          by_cases e : j = k
          · subst e; exact h
          · exact hR.out j h1 h2 (by omega))
        replace ca := Lib.hid ca
        replace cb := Lib.hid cb
        clear hR
        generalize A[k] = x at *
        generalize B[k] = y at *
        obtain ⟨g, hg⟩ : ∃ g, (x != y) = g := ⟨_, rfl⟩
        replace hg := Lib.hid hg
        go_upto_region 6 with fail
        refine wp_region_quiet_lit (by kernel_rfl) (by kernel_rfl) ?_
        iterate 3 (go_big_quiet_step (fail))
        refine wpQuiet_v rfl (.int .i64 x) (by rintro _ ⟨j, rfl⟩; rw [World.drewN_drewN]; exact run_load_v rfl rfl (run_i64 (ca.out _))) ?_
        simp only [Act.put, List.setIfInBounds_toArray, List.set_cons_succ, List.set_cons_zero]
        iterate 3 (go_big_quiet_step (fail))
        refine wpQuiet_v rfl (.int .i64 y) (by rintro _ ⟨j, rfl⟩; rw [World.drewN_drewN]; exact run_load_v rfl rfl (run_i64 (cb.out _))) ?_
        simp only [Act.put, List.setIfInBounds_toArray, List.set_cons_succ, List.set_cons_zero]
        go_big_quiet_step (fail)
        refine wpQuiet_nil ?_
        rintro _ ⟨j, rfl⟩
        rw [World.drewN_drewN, hg.out]
        cases g with
        | true =>
          obtain rfl : X = false := hno.out (by simpa using hg.out)
          clear hno hR' hX ca cb
          go_wp2
          go_ret
          exact ⟨rfl, below_drewN (Below.refl _ _) _⟩
        | false =>
          have hR2 := Lib.hid (hR'.out (by simpa using hg.out))
          clear hno hR' ca cb
          go_wp2_with fail
          go_roundw
          case rel => exact ⟨k + 1, by omega, by simp, hR2, _, rfl⟩
          case measure => simp [intOf]; omega
      · obtain rfl : X = true := hX.out.2 (fun j h1 h2 => hR.out j h1 h2 (by omega))
        clear hX hR
        go_wp2
        go_ret
        exact ⟨rfl, below_drewN (Below.refl _ _) _⟩
  · have hX : decide (A = B) = false := decide_eq_false (fun e => hl (by rw [e]))
    rw [hX]
    have n1 : ((A.length : Int) != (B.length : Int)) = true := by simpa using (show ¬ (A.length : Int) = (B.length : Int) by omega)
    have n2 : (A.length != B.length) = true := by simpa using hl
    go_enter Tryz.func27, Tryz.ntmps27
    go_wp2
    go_ret
    exact ⟨rfl, Below.refl _ _⟩
set_option maxHeartbeats 1000000 in
set_option maxRecDepth 100000 in
/-- are both rows alike? -/
theorem rsame_calls (p q : Option Addr) (c d : Nat) (A B : List (Int × Int)) (w : World) (hA : Els w p 2 (A.map stV)) (hB : Els w q 2 (B.map stV)) :
    Calls Tryz.prog 48 #[.slice p A.length c, .slice q B.length d] w fun e w' => e = .returned (.bool (decide (A = B))) ∧ Below w.heap.size w w' := by
  have hbig : A.length ≤ 140737488351232 := by simpa using hA.big
  have hbig2 : B.length ≤ 140737488351232 := by simpa using hB.big
  replace hA := Lib.hid hA
  replace hB := Lib.hid hB
  by_cases hl : A.length = B.length
  · have hX : Hid (decide (A = B) = true ↔ ∀ k (h1 : k < A.length) (h2 : k < B.length), A[k] = B[k]) := Lib.hid ⟨fun h k h1 h2 => by have e := of_decide_eq_true h; subst e; rfl, fun h => decide_eq_true (List.ext_getElem hl (fun k h1 h2 => h k h1 h2))⟩
    generalize decide (A = B) = X at *
    go_enter Tryz.func48, Tryz.ntmps48
    rw [← hl]
    replace hl := Lib.hid hl
    go_wp2_with fail
    go_loopw [5] (fun s5 wx => ∃ k : Nat, k ≤ A.length ∧ s5 = .int .i64 k ∧ Hid (∀ j (h1 : j < A.length) (h2 : j < B.length), j < k → A[j] = B[j]) ∧ ∃ m, wx = w.drewN m) (fun s5 _ => A.length - (intOf s5).toNat)
    case atStart => exact ⟨0, Nat.zero_le _, rfl, Lib.hid (fun j _ _ h => by omega), 0, rfl⟩
    case round =>
      obtain ⟨k, hk, rfl, hR, m, rfl⟩ := hrel
      by_cases hlt : k < A.length
      · have hltI : (k : Int) < (A.length : Int) := by omega
        have hk0 : (0 : Int) ≤ (k : Int) := by omega
        have s1 : IntKind.i64.wrap ((k : Int) + 1) = (k : Int) + 1 := IntWalk.i64_in _ (by omega)
        have hlb : k < B.length := by rw [← hl.out]; exact hlt
        obtain ⟨a, ha⟩ := hA.out.some_of (k := k) (by simpa using hlt)
        subst ha
        obtain ⟨b, hb⟩ := hB.out.some_of (k := k) (by simpa using hlb)
        subst hb
        have ca : ∀ n, (loadVar 75 (a.add (k * 2))).run Tryz.prog (w.drewN n) = .ok (.agg #[.int .i64 A[k].1, .int .i64 A[k].2]) (w.drewN n) := fun n => by
          have := (hA.out.below (below_drewN (Below.refl _ _) n)).load (P := Tryz.prog) (a := a) rfl (k := k) (by simpa using hlt) (ty := 75) Tryz.underlying75 rfl (by kernel_rfl)
          rw [List.getElem_map] at this
          exact this
        have cb : ∀ n, (loadVar 75 (b.add (k * 2))).run Tryz.prog (w.drewN n) = .ok (.agg #[.int .i64 B[k].1, .int .i64 B[k].2]) (w.drewN n) := fun n => by
          have := (hB.out.below (below_drewN (Below.refl _ _) n)).load (P := Tryz.prog) (a := b) rfl (k := k) (by simpa using hlb) (ty := 75) Tryz.underlying75 rfl (by kernel_rfl)
          rw [List.getElem_map] at this
          exact this
        have hno : Hid (A[k] ≠ B[k] → X = false) := Lib.hid (fun h => by
          cases X with
          | false => rfl
          | true => exact absurd (hX.out.1 rfl k hlt hlb) h)
        have hR' : Hid (A[k] = B[k] → ∀ j (h1 : j < A.length) (h2 : j < B.length), j < k + 1 → A[j] = B[j]) := Lib.hid (fun h j h1 h2 hj => by
          by_cases e : j = k
          · subst e; exact h
          · exact hR.out j h1 h2 (by omega))
        replace ca := Lib.hid ca
        replace cb := Lib.hid cb
        clear hR
        generalize A[k] = x at *
        generalize B[k] = y at *
        obtain ⟨g, hg⟩ : ∃ g, (x != y) = g := ⟨_, rfl⟩
        replace hg := Lib.hid hg
        go_upto_region 6 with fail
        refine wp_region_quiet_lit (by kernel_rfl) (by kernel_rfl) ?_
        iterate 3 (go_big_quiet_step (fail))
        refine wpQuiet_v rfl (.agg #[.int .i64 x.1, .int .i64 x.2]) (by rintro _ ⟨j, rfl⟩; rw [World.drewN_drewN]; exact run_load_v rfl rfl (ca.out _)) ?_
        simp only [Act.put, List.setIfInBounds_toArray, List.set_cons_succ, List.set_cons_zero]
        iterate 3 (go_big_quiet_step (fail))
        refine wpQuiet_v rfl (.agg #[.int .i64 y.1, .int .i64 y.2]) (by rintro _ ⟨j, rfl⟩; rw [World.drewN_drewN]; exact run_load_v rfl rfl (cb.out _)) ?_
        simp only [Act.put, List.setIfInBounds_toArray, List.set_cons_succ, List.set_cons_zero]
        refine wpQuiet_v rfl (.bool (x != y)) (by rintro _ ⟨j, rfl⟩; exact run_neqSt rfl rfl rfl) ?_
        simp only [Act.put, List.setIfInBounds_toArray, List.set_cons_succ, List.set_cons_zero]
        refine wpQuiet_nil ?_
        rintro _ ⟨j, rfl⟩
        rw [World.drewN_drewN, hg.out]
        cases g with
        | true =>
          obtain rfl : X = false := hno.out (by simpa using hg.out)
          clear hno hR' hX ca cb
          go_wp2
          go_ret
          exact ⟨rfl, below_drewN (Below.refl _ _) _⟩
        | false =>
          have hR2 := Lib.hid (hR'.out (by simpa using hg.out))
          clear hno hR' ca cb
          go_wp2_with fail
          go_roundw
          case rel => exact ⟨k + 1, by omega, by simp, hR2, _, rfl⟩
          case measure => simp [intOf]; omega
      · obtain rfl : X = true := hX.out.2 (fun j h1 h2 => hR.out j h1 h2 (by omega))
        clear hX hR
        go_wp2
        go_ret
        exact ⟨rfl, below_drewN (Below.refl _ _) _⟩
  · have hX : decide (A = B) = false := decide_eq_false (fun e => hl (by rw [e]))
    rw [hX]
    have n1 : ((A.length : Int) != (B.length : Int)) = true := by simpa using (show ¬ (A.length : Int) = (B.length : Int) by omega)
    have n2 : (A.length != B.length) = true := by simpa using hl
    go_enter Tryz.func48, Tryz.ntmps48
    go_wp2
    go_ret
    exact ⟨rfl, Below.refl _ _⟩
theorem rows_ext {A B : List Rou2} (hl : A.length = B.length) (h : ∀ k, k < A.length → A.getD k [] = B.getD k []) : A = B :=
  List.ext_getElem hl fun k h1 h2 => by
    have := h k h1
    rwa [List.getD_eq_getElem?_getD, List.getD_eq_getElem?_getD, List.getElem?_eq_getElem h1, List.getElem?_eq_getElem h2] at this
theorem rs_cell {w wx : World} {a : Addr} {rows : List Rou2} {qs : List (Option Addr × Nat)} (h : Els w (some a) 1 (rsV rows qs rows.length)) (hm : Mod (fun _ => False) w wx) {k : Nat} (hk : k < rows.length) : wx.cell? (a.add k) = some (.slice (qs.getD k (none, 0)).1 (rows.getD k []).length (qs.getD k (none, 0)).2) := by
  have h1 := h.cells a rfl k [.slice (qs.getD k (none, 0)).1 (rows.getD k []).length (qs.getD k (none, 0)).2] 0 _ (by simp [rsV, hk]) rfl
  rw [Nat.mul_one, Nat.add_zero] at h1
  exact hm.cell_of (fun h => h) h1
set_option maxHeartbeats 4000000 in
set_option maxRecDepth 100000 in
theorem rrows_calls (p q : Option Addr) (c d : Nat) (A B : List Rou2) (qa qb : List (Option Addr × Nat)) (w : World) (hA : Els w p 1 (rsV A qa A.length)) (hB : Els w q 1 (rsV B qb B.length)) (hbig : A.length ≤ 100000)
    (ha : ∀ i, i < A.length → Els w (qa.getD i (none, 0)).1 2 ((A.getD i []).map stV)) (hb : ∀ i, i < B.length → Els w (qb.getD i (none, 0)).1 2 ((B.getD i []).map stV)) :
    Calls Tryz.prog 20 #[.slice p A.length c, .slice q B.length d] w fun e w' => e = .returned (.bool (decide (A = B))) ∧ Below w.heap.size w w' := by
  by_cases hl : A.length = B.length
  · have hX : Hid (decide (A = B) = true ↔ ∀ k, k < A.length → A.getD k [] = B.getD k []) := Lib.hid ⟨fun h k h1 => by have e := of_decide_eq_true h; subst e; rfl, fun h => decide_eq_true (rows_ext hl h)⟩
    generalize decide (A = B) = X at *
    replace hA := Lib.hid hA
    replace hB := Lib.hid hB
    replace ha := Lib.hid ha
    replace hb := Lib.hid hb
    go_enter Tryz.func20, Tryz.ntmps20
    rw [← hl]
    replace hl := Lib.hid hl
    go_wp2_with fail
    go_loopw [5] (fun s5 wx => ∃ k : Nat, k ≤ A.length ∧ s5 = .int .i64 k ∧ Hid (∀ j, j < k → A.getD j [] = B.getD j []) ∧ Mod (fun _ => False) w wx) (fun s5 _ => A.length - (intOf s5).toNat)
    case atStart => exact ⟨0, Nat.zero_le _, rfl, Lib.hid (fun j h => by omega), Mod.refl _ _⟩
    case round =>
      obtain ⟨k, hk, rfl, hR, hm⟩ := hrel
      by_cases hlt : k < A.length
      · have hltI : (k : Int) < (A.length : Int) := by omega
        have hk0 : (0 : Int) ≤ (k : Int) := by omega
        have s1 : IntKind.i64.wrap ((k : Int) + 1) = (k : Int) + 1 := IntWalk.i64_in _ (by omega)
        have hltB : k < B.length := by rw [← hl.out]; exact hlt
        obtain ⟨a, e⟩ := hA.out.some_of (k := k) (by rw [rsV_size]; exact hlt)
        subst e
        obtain ⟨b, e⟩ := hB.out.some_of (k := k) (by rw [rsV_size]; exact hltB)
        subst e
        have hla := fun wx (h : Mod (fun _ => False) wr wx) => run_cellSt (rs_cell hA.out (hm.trans h) hlt)
        have hlb := fun wx (h : Mod (fun _ => False) wr wx) => run_cellSt (rs_cell hB.out (hm.trans h) hltB)
        have hsm := fun wx (h : Mod (fun _ => False) wr wx) => rsame_calls (qa.getD k (none, 0)).1 (qb.getD k (none, 0)).1 (qa.getD k (none, 0)).2 (qb.getD k (none, 0)).2 (A.getD k []) (B.getD k []) wx (els_modP (ha.out k hlt) (hm.trans h) (fun _ _ _ h => h)) (els_modP (hb.out k hltB) (hm.trans h) (fun _ _ _ h => h))
        have hno : Hid (A.getD k [] ≠ B.getD k [] → X = false) := Lib.hid (fun h => by
          cases X with
          | false => rfl
          | true => exact absurd (hX.out.1 rfl k hlt) h)
        have hR' : Hid (A.getD k [] = B.getD k [] → ∀ j, j < k + 1 → A.getD j [] = B.getD j []) := Lib.hid (fun h j hj => by
          by_cases e : j = k
          · subst e; exact h
          · exact hR.out j (by omega))
        clear hR
        generalize A.getD k [] = lA at hla hsm hno hR'
        generalize B.getD k [] = lB at hlb hsm hno hR'
        generalize (qa.getD k (none, 0)).1 = qk at *
        generalize (qa.getD k (none, 0)).2 = dk at *
        generalize (qb.getD k (none, 0)).1 = q2 at *
        generalize (qb.getD k (none, 0)).2 = d2 at *
        replace hla := Lib.hid hla
        replace hlb := Lib.hid hlb
        replace hsm := Lib.hid hsm
        obtain ⟨g, hg⟩ : ∃ g, decide (lA = lB) = g := ⟨_, rfl⟩
        rw [hg] at hsm
        replace hg := Lib.hid hg
        replace hm := Lib.hid hm
        go_upto_region 6 with fail
        refine wp_region_rove (X := Unit) () (fun x => [(17, .slice (some a) A.length c), (18, .int .i64 k), (19, .pointer (some (a.add k))), (20, .slice qk lA.length dk), (21, .slice (some b) A.length d), (22, .int .i64 k), (23, .pointer (some (b.add k))), (24, .slice q2 lB.length d2), (25, .bool g), (26, .bool (!g))])
          (fun x d W' => Mod (fun _ => False) wr W') (by kernel_rfl) (by kernel_rfl) (by kernel_rfl) (by kernel_rfl) (fun x => by kernel_rfl)
          (Mod.refl _ _).drew ?_ ?_
        · intro aF hAF
          have E0 : ∀ x, (aF x).eval (.tmp 0) = .slice (some a) A.length c := by intro x; rw [hAF]; kernel_rfl
          have E1 : ∀ x, (aF x).eval (.tmp 1) = .slice (some b) A.length d := by intro x; rw [hAF]; kernel_rfl
          have E5 : ∀ x, (aF x).eval (.tmp 5) = .int .i64 k := by intro x; rw [hAF]; kernel_rfl
          have T17 : ∀ x, (aF x).tmps[17]? = some (.slice (some a) A.length c) := by intro x; rw [hAF]; kernel_rfl
          have E17 : ∀ x, (aF x).eval (.tmp 17) = .slice (some a) A.length c := by intro x; rw [hAF]; kernel_rfl
          have T18 : ∀ x, (aF x).tmps[18]? = some (.int .i64 k) := by intro x; rw [hAF]; kernel_rfl
          have E18 : ∀ x, (aF x).eval (.tmp 18) = .int .i64 k := by intro x; rw [hAF]; kernel_rfl
          have T19 : ∀ x, (aF x).tmps[19]? = some (.pointer (some (a.add k))) := by intro x; rw [hAF]; kernel_rfl
          have E19 : ∀ x, (aF x).eval (.tmp 19) = .pointer (some (a.add k)) := by intro x; rw [hAF]; kernel_rfl
          have T20 : ∀ x, (aF x).tmps[20]? = some (.slice qk lA.length dk) := by intro x; rw [hAF]; kernel_rfl
          have E20 : ∀ x, (aF x).eval (.tmp 20) = .slice qk lA.length dk := by intro x; rw [hAF]; kernel_rfl
          have T21 : ∀ x, (aF x).tmps[21]? = some (.slice (some b) A.length d) := by intro x; rw [hAF]; kernel_rfl
          have E21 : ∀ x, (aF x).eval (.tmp 21) = .slice (some b) A.length d := by intro x; rw [hAF]; kernel_rfl
          have T22 : ∀ x, (aF x).tmps[22]? = some (.int .i64 k) := by intro x; rw [hAF]; kernel_rfl
          have E22 : ∀ x, (aF x).eval (.tmp 22) = .int .i64 k := by intro x; rw [hAF]; kernel_rfl
          have T23 : ∀ x, (aF x).tmps[23]? = some (.pointer (some (b.add k))) := by intro x; rw [hAF]; kernel_rfl
          have E23 : ∀ x, (aF x).eval (.tmp 23) = .pointer (some (b.add k)) := by intro x; rw [hAF]; kernel_rfl
          have T24 : ∀ x, (aF x).tmps[24]? = some (.slice q2 lB.length d2) := by intro x; rw [hAF]; kernel_rfl
          have E24 : ∀ x, (aF x).eval (.tmp 24) = .slice q2 lB.length d2 := by intro x; rw [hAF]; kernel_rfl
          have T25 : ∀ x, (aF x).tmps[25]? = some (.bool g) := by intro x; rw [hAF]; kernel_rfl
          have E25 : ∀ x, (aF x).eval (.tmp 25) = .bool g := by intro x; rw [hAF]; kernel_rfl
          have T26 : ∀ x, (aF x).tmps[26]? = some (.bool (!g)) := by intro x; rw [hAF]; kernel_rfl
          have E26 : ∀ x, (aF x).eval (.tmp 26) = .bool (!g) := by intro x; rw [hAF]; kernel_rfl
          replace hAF := Lib.hid hAF
          refine ⟨?_, ?_, ?_, ?_, ?_, ?_, ?_, ?_, ?_, ?_, trivial⟩
          · exact opOk3_quiet _ (by intro x t hd _; cases hd; exact T17 x) (fun _ => rfl) fun x d w' hd hc => sv (run_mov rfl (E0 x)) hc
          · exact opOk3_quiet _ (by intro x t hd _; cases hd; exact T18 x) (fun _ => rfl) fun x d w' hd hc => sv (run_mov rfl (E5 x)) hc
          · exact opOk3_quiet _ (by intro x t hd _; cases hd; exact T19 x) (fun _ => rfl) fun x d w' hd hc => sv (run_ixRs rfl (E17 x) (E18 x) hlt) hc
          · exact opOk3_quiet _ (by intro x t hd _; cases hd; exact T20 x) (fun _ => rfl) fun x d w' hd hc => sv (run_load1 rfl (E19 x) (hla.out _ hc)) hc
          · exact opOk3_quiet _ (by intro x t hd _; cases hd; exact T21 x) (fun _ => rfl) fun x d w' hd hc => sv (run_mov rfl (E1 x)) hc
          · exact opOk3_quiet _ (by intro x t hd _; cases hd; exact T22 x) (fun _ => rfl) fun x d w' hd hc => sv (run_mov rfl (E5 x)) hc
          · exact opOk3_quiet _ (by intro x t hd _; cases hd; exact T23 x) (fun _ => rfl) fun x d w' hd hc => sv (run_ixRs rfl (E21 x) (E22 x) hlt) hc
          · exact opOk3_quiet _ (by intro x t hd _; cases hd; exact T24 x) (fun _ => rfl) fun x d w' hd hc => sv (run_load1 rfl (E23 x) (hlb.out _ hc)) hc
          · exact opOk3_quiet _ (by intro x t hd _; cases hd; exact T25 x) (fun _ => rfl) fun x d w' hd hc => sc (run_callSm rfl (E20 x) (E24 x)) ((hsm.out w' hc).mono fun e w'' h => ⟨h.1, hc.after h.2⟩)
          · exact opOk3_quiet _ (by intro x t hd _; cases hd; exact T26 x) (fun _ => rfl) fun x d w' hd hc => sv (run_notS rfl (E25 x)) hc
        · intro x d w' hd hc
          simp only [putAll, List.foldl_cons, List.foldl_nil, Act.put, List.setIfInBounds_toArray, List.set_cons_succ, List.set_cons_zero]
          have hm2 := Lib.hid (hm.out.trans hc)
          clear hc hsm hla hlb hm hd
          cases g with
          | false =>
            obtain rfl : X = false := hno.out (of_decide_eq_false hg.out)
            clear hno hR' hX
            go_wp2
            go_ret
            exact ⟨rfl, hm2.out.below (Nat.le_refl _) (fun _ h => h.elim)⟩
          | true =>
            have hR2 := Lib.hid (hR'.out (of_decide_eq_true hg.out))
            clear hno hR'
            go_wp2_with fail
            go_roundw
            case rel => exact ⟨k + 1, by omega, by simp, hR2, hm2.out⟩
            case measure => simp [intOf]; omega
      · obtain rfl : X = true := hX.out.2 (fun j h1 => hR.out j (by omega))
        clear hX hR
        replace hm := Lib.hid hm
        go_wp2
        go_ret
        exact ⟨rfl, hm.out.below (Nat.le_refl _) (fun _ h => h.elim)⟩
  · have hX : decide (A = B) = false := decide_eq_false (fun e => hl (by rw [e]))
    rw [hX]
    have n1 : ((A.length : Int) != (B.length : Int)) = true := by simpa using (show ¬ (A.length : Int) = (B.length : Int) by omega)
    have n2 : (A.length != B.length) = true := by simpa using hl
    go_enter Tryz.func20, Tryz.ntmps20
    go_wp2
    go_ret
    exact ⟨rfl, Below.refl _ _⟩
end Go.Proofs.YtdmnoogppmckaaaGreat
namespace Go.Proofs.YtdmnoogppmckaaaGreat
open Go.RowKit

/-- so many vehicles that are drawn -/
def drF (B : List Int) (k : Int) (m : Nat) : List Ve := (List.range m).map fun i : Nat => drV B (k + 5 * (i : Int))
theorem drF_len (B : List Int) (k : Int) (m : Nat) : (drF B k m).length = m := by simp [drF]
theorem drF_succ (B : List Int) (k : Int) (m : Nat) : drF B k (m + 1) = drF B k m ++ [drV B (k + 5 * (m : Int))] := by
  unfold drF
  rw [List.range_succ, List.map_append]
  rfl
theorem veR_lenP (F : List Ve) : ∀ x ∈ F.map veR, x.length = 5 := by
  intro x hx
  obtain ⟨s, _, rfl⟩ := List.mem_map.1 hx
  rfl
def ptN (n : Int) : Nat := (n % 10).toNat
def ptM (f : Int) : Nat := (f % 4).toNat + 1
def ptT (B : List Int) (n wd : Int) : List Rq := drT B wd 0 (ptN n)
def ptF (B : List Int) (n f : Int) : List Ve := drF B (8 * (ptN n : Int)) (ptM f)
def ptC (p : Option Addr) (c : Nat) (B : List Int) (n wd k f : Int) : Array Value := #[.slice p B.length c, .int .u8 n, .int .u8 wd, .int .i64 k, .int .u8 f]
def PtPost (w : World) (F : List Ve) (T : List Rq) (e : Ending) (w' : World) : Prop :=
  (∃ q d q' d', e = .returned (.tuple #[.slice q F.length d, .slice q' T.length d']) ∧ (F.length ≤ d ∧ d ≤ 9223372036854775807) ∧ (T.length ≤ d' ∧ d' ≤ 9223372036854775807) ∧ Els w' q 5 (F.map veR) ∧ Els w' q' 10 (T.map rqV) ∧
    (∀ a, q = some a → w.heap.size ≤ a.block) ∧ (∀ a, q' = some a → w.heap.size ≤ a.block)) ∧ Below w.heap.size w w'
theorem ve_el : ElT Tryz.prog 22 53 5 40 := ⟨Tryz.underlying22, by kernel_rfl, by kernel_rfl, by kernel_rfl, by omega, by omega⟩
theorem rsl_ve (v : Ve) (w : World) : (Instr.buildSlice 22 1 #[(0, .agg (veR v).toArray)]).run Tryz.prog w = .ok (.slice (some ⟨w.heap.size, 0, none⟩) 1 1) (w.alloc (.cells (veR v).toArray 53)) := by kernel_rfl
set_option maxHeartbeats 4000000 in
set_option maxRecDepth 100000 in
theorem ptparts_calls (p : Option Addr) (c : Nat) (B : List Int) (n wd k f : Int) (w : World) (hA : DrA w p B n wd) (hf : 0 ≤ f ∧ f < 256) :
    Calls Tryz.prog 23 #[.agg (ptC p c B n wd k f)] w (PtPost w (ptF B n f) (ptT B n wd)) := by
  have hnb := hA.nb
  have e1 := Int.emod_nonneg n (show (10 : Int) ≠ 0 by omega)
  have e2 := Int.emod_lt_of_pos n (show (0 : Int) < 10 by omega)
  have e3 := Int.emod_nonneg f (show (4 : Int) ≠ 0 by omega)
  have e4 := Int.emod_lt_of_pos f (show (0 : Int) < 4 by omega)
  have hTD : ptT B n wd = drT B wd 0 (ptN n) := rfl
  have hFD : ptF B n f = drF B (8 * (ptN n : Int)) (ptM f) := rfl
  have hMD : ptM f = (f % 4).toNat + 1 := rfl
  have hND : ptN n = (n % 10).toNat := rfl
  unfold PtPost
  generalize ptN n = N at *
  generalize ptM f = M at *
  have hNI : (N : Int) = n % 10 := by omega
  have hMI : (M : Int) = f % 4 + 1 := by omega
  have hN9 : N ≤ 9 := by omega
  have hM4 : M ≤ 4 := by omega
  obtain ⟨C, hC⟩ : ∃ C, ptC p c B n wd k f = C := ⟨_, rfl⟩
  have g0 : C[0]? = some (.slice p B.length c) := by rw [← hC]; rfl
  have g1 : C[1]? = some (.int .u8 n) := by rw [← hC]; rfl
  have g2 : C[2]? = some (.int .u8 wd) := by rw [← hC]; rfl
  have g4 : C[4]? = some (.int .u8 f) := by rw [← hC]; rfl
  rw [hC]
  have hpre := Lib.hid (show Blk (w.alloc (.cells C 38)) w.heap.size C 38 ∧ DrA (w.alloc (.cells C 38)) p B n wd ∧ Below w.heap.size w (w.alloc (.cells C 38)) ∧ (w.alloc (.cells C 38)).heap.size = w.heap.size + 1 from
    ⟨Blk.new _ _ _, hA.below (new_below _ _), new_below _ _, by simp⟩)
  have hc5 : C.size = 5 := by rw [← hC]; rfl
  clear hA hC
  rw [hTD, hFD]
  clear hTD hFD hMD hND
  go_enter Tryz.func23, Tryz.ntmps23
  go_upto_region 1 with fail
  refine wp_world' (fun wx => Blk wx w.heap.size C 38 ∧ DrA wx p B n wd ∧ Below w.heap.size w wx ∧ wx.heap.size = w.heap.size + 1) hpre.out ?_
  clear hpre
  rintro w1 ⟨hB, hD, hb, hz⟩
  have k0 := hB.cell g0
  have k1 := hB.cell g1
  have k2 := hB.cell g2
  have hS := hD.box c 0
  rw [hz] at hS
  have hpre := Lib.hid (show DrS (w1.alloc (.cells (drC p c B n wd 0) 36)) (w.heap.size + 1) p c B n wd 0 ∧ Blk (w1.alloc (.cells (drC p c B n wd 0) 36)) w.heap.size C 38 ∧ Below w.heap.size w (w1.alloc (.cells (drC p c B n wd 0) 36)) ∧ w.heap.size + 2 ≤ (w1.alloc (.cells (drC p c B n wd 0) 36)).heap.size from
    ⟨hS, hB.alloc _, hb.alloc (by omega) _, by simp; omega⟩)
  replace hz := Lib.hid hz
  clear hB hD hb hS
  go_upto_region 2 with (refine wpList_store_new rfl 36 _ _ rfl rfl rfl _ (drC p c B n wd 0) _ rfl rfl (by simp [drC, Value.oneCell']) (by kernel_rfl) ?_)
  rw [hz.out]
  refine wp_world' (fun wx => DrS wx (w.heap.size + 1) p c B n wd 0 ∧ Blk wx w.heap.size C 38 ∧ Below w.heap.size w wx ∧ w.heap.size + 2 ≤ wx.heap.size) hpre.out ?_
  clear hpre k0 k1 k2 hz
  rintro w2 ⟨hS, hB, hb, hz⟩
  have k1 := hS.blk.cell (i := 1) (v := .int .u8 n) rfl
  have hT := Lib.hid (drequests_calls (w.heap.size + 1) p c B n wd 0 N w2 hS (by omega) (by omega))
  rw [Int.zero_add] at hT
  replace hB := Lib.hid hB
  replace hb := Lib.hid hb
  replace hz := Lib.hid hz
  clear hS
  rw [hNI] at hT
  go_wp2_with fail
  refine hT.out.mono ?_
  rintro e w3 ⟨⟨qT, dT, rfl, hdT, hdT2, hET, hqT⟩, hS3, hM3⟩
  rw [← hNI] at hS3
  have hb3 := hb.out.trans (hM3.below hb.out.size (fun k h => by have : k = w.heap.size + 1 := h; omega))
  have hB3 := Lib.hid (hB.out.mod hM3 (by omega))
  have hz3 := Nat.le_trans hz.out hM3.size
  have hqT' : ∀ a, qT = some a → w.heap.size + 2 ≤ a.block := fun a ha => Nat.le_trans hz.out (hqT a ha)
  have h0 := Lib.hid hS3
  replace hb3 := Lib.hid hb3
  replace hz3 := Lib.hid hz3
  replace hET := Lib.hid hET
  replace hqT' := Lib.hid hqT'
  have hn8 : 0 ≤ 8 * (N : Int) ∧ 8 * (N : Int) ≤ 100 := by omega
  clear hT hB hb hz hM3 hqT k1
  go_wp2_with fail
  go_loopw [6, 7] (fun s6 s7 wx => ∃ i : Nat, i ≤ M ∧ s7 = .int .i64 i ∧ wx.ownsRow w3.heap.size 53 5 s6 i ((drF B (8 * (N : Int)) i).map veR).flatten ∧ DrS wx (w.heap.size + 1) p c B n wd (8 * (N : Int) + 5 * (i : Int)) ∧ Mod (· = w.heap.size + 1) w3 wx) (fun _ s7 _ => M - (intOf s7).toNat)
  case atStart => exact ⟨0, Nat.zero_le _, rfl, World.ownsRow_nil _ _ _ _, by simpa using hS3, Mod.refl _ _⟩
  case round =>
    clear hS3
    obtain ⟨i, hi, rfl, hO, hD, hM⟩ := hrel
    have k4 := (hB3.out.mod hM (by omega)).cell g4
    by_cases hlt : i < M
    · have hltI : (i : Int) ≤ f % 4 := by omega
      have s1 : IntKind.i64.wrap ((i : Int) + 1) = (i : Int) + 1 := IntWalk.i64_in _ (by omega)
      have hrq := Lib.hid (dvehicle_calls (w.heap.size + 1) p c B n wd (8 * (N : Int) + 5 * (i : Int)) wr hD (by omega))
      have hts := Lib.hid (drF_succ B (8 * (N : Int)) i)
      generalize drV B (8 * (N : Int) + 5 * (i : Int)) = X at *
      replace hO := Lib.hid hO
      replace hM := Lib.hid hM
      clear hD
      go_wp2_with fail
      refine hrq.out.mono ?_
      rintro e w4 ⟨rfl, hD2, hM2⟩
      have hO2 := own_mod hO.out hM2 (fun b hb e => by have := (own_blk_lt hO.out hb).1; have := hz3.out; omega)
      replace hM2 := hM.out.trans hM2
      have hOA := Lib.hid (own_mod hO2 ((Mod.refl (fun _ => False) w4).alloc (.cells (veR X).toArray 53)) (fun _ _ h => h))
      have hDA := Lib.hid (hD2.mod ((Mod.refl (fun _ => False) w4).alloc (.cells (veR X).toArray 53)))
      have hMA := Lib.hid (hM2.alloc (.cells (veR X).toArray 53))
      have hzA := Lib.hid hMA.out.size
      clear hrq hO hM hO2 hD2 hM2 k4
      go_wp2_with (first | (refine wpList_bs1 rfl 22 1 0 _ rfl (.agg (veR X).toArray) rfl _ _ (rsl_ve X _) ?_) |
        (refine wpList_appG ve_el rfl _ _ rfl w3.heap.size hzA.out _ _ _ rfl hOA.out (by omega) _ 1 1 (veR X) rfl rfl (by omega) (row_cells (Blk.new _ _ _)) (by simp [veR, Value.oneCell']) ?_; intro v' w13 hO' hg; have hM3 := Lib.hid (hMA.out.grown hg (fun b hb hlt => by have := (own_blk_lt hOA.out hb).1; omega)); have hD3 := Lib.hid (h0.out.of hM3.out (grown_blk hDA.out.blk hOA.out (by have := hz3.out; omega) hg)); replace hO' := Lib.hid hO'; clear hg hOA hDA hMA hzA))
      go_roundw
      case rel =>
        refine ⟨i + 1, by omega, by simp, ?_, ?_, hM3.out⟩
        · rw [hts.out, List.map_append, List.flatten_append]
          simpa using hO'.out
        · have := hD3.out
          rwa [show 8 * (N : Int) + 5 * (i : Int) + 5 = 8 * (N : Int) + 5 * ((i + 1 : Nat) : Int) by omega] at this
      case measure => simp [intOf]; omega
    · obtain rfl : i = M := by omega
      have hltI : ¬ (i : Int) ≤ f % 4 := by omega
      replace hNI := Lib.hid hNI
      replace hMI := Lib.hid hMI
      obtain ⟨q, i', d, rfl⟩ := own_isS hO
      have hEl := own_els (R := (drF B (8 * (N : Int)) i).map veR) (veR_lenP _) (by rw [List.length_map, drF_len]; exact hO) (by rw [List.length_map, drF_len]; omega)
      rw [List.length_map, drF_len] at hEl
      obtain ⟨h1, rfl, h3, h4⟩ := hEl
      have hcap := own_cap hO
      have hln := Lib.hid (drF_len B (8 * (N : Int)) i')
      have hET2 := Lib.hid (els_modP hET.out hM (fun a ha _ e => by have := hqT'.out a ha; omega))
      have hb5 := Lib.hid (hb3.out.trans (hM.below hb3.out.size (fun k h => by have : k = w.heap.size + 1 := h; omega)))
      replace h1 := Lib.hid h1
      replace h4 := Lib.hid (fun a ha => (h4 a ha).1)
      clear hO hD hM
      go_wp2_with fail
      go_ret2
      exact ⟨⟨q, d, qT, dT, by rw [hln.out]; rfl, ⟨by rw [hln.out]; exact h3, hcap⟩, ⟨hdT, hdT2⟩, h1.out, hET2.out, fun a ha => by have := h4.out a ha; have := hz3.out; omega, fun a ha => by have := hqT'.out a ha; omega⟩, hb5.out⟩
end Go.Proofs.YtdmnoogppmckaaaGreat
namespace Go.Proofs.YtdmnoogppmckaaaGreat
open Go.RowKit

theorem els_litP {w : World} {g n : Nat} {E : TypeId} {R : List (List Value)} (hB : Blk w g R.flatten.toArray E) (hl : ∀ x ∈ R, x.length = n) (hb : R.length ≤ 140737488351232) : Els w (some ⟨g, 0, none⟩) n R :=
  ⟨fun e => (by cases e), hl, hb, fun a ha k x j v hk hj => by
    cases ha
    rw [add0]
    exact hB.cell (by simpa using flat_at R k j x v hl hk hj)⟩
def chF : List Ve := [rqMk [0, 0, 5, 0, 40], rqMk [20, 0, 5, 0, 40]]
def chT : List Rq := [rqMk [5, 0, 9, 0, 0, 20, 0, 30, 3, 1], rqMk [15, 0, 18, 0, 0, 40, 0, 40, 2, 0]]
def prL (req : Int) : Rou2 := [(req, 0), (req, 1)]
set_option maxHeartbeats 1000000 in
set_option maxRecDepth 100000 in
theorem pair13_calls (r : Int) (w : World) : Calls Tryz.prog 40 #[.int .i64 r] w fun e w' => ∃ q, e = .returned (.slice q 2 2) ∧ Els w' q 2 ((prL r).map stV) ∧ (∃ g C, q = some ⟨g, 0, none⟩ ∧ w.heap.size ≤ g ∧ Blk w' g C 75) ∧ Below w.heap.size w w' := by
  have hp := Lib.hid (Blk.new w ((prL r).map stV).flatten.toArray 75)
  go_enter Tryz.func40, Tryz.ntmps40
  go_wp2_with fail
  go_ret
  exact ⟨_, rfl, els_litP hp.out (stV_len _) (by simp [prL]), ⟨_, _, rfl, Nat.le_refl _, hp.out⟩, new_below _ _⟩
set_option maxHeartbeats 1000000 in
set_option maxRecDepth 100000 in
theorem chapter_calls (w : World) : Calls Tryz.prog 39 #[] w fun e w' => ∃ q q', e = .returned (.tuple #[.slice q 2 2, .slice q' 2 2]) ∧ Els w' q 5 (chF.map veR) ∧ Els w' q' 10 (chT.map rqV) ∧ Below w.heap.size w w' := by
  go_enter Tryz.func39, Tryz.ntmps39
  go_wp2_with fail
  go_ret2
  have h1 := (Blk.new w (chT.map rqV).flatten.toArray 72).alloc (.cells (chF.map veR).flatten.toArray 53)
  have h2 := Blk.new' w (.cells (chT.map rqV).flatten.toArray 72) (chF.map veR).flatten.toArray 53
  exact ⟨_, _, rfl, els_litP h2 (veR_lenP _) (by decide), els_litP h1 (rqV_len _) (by decide), (new_below _ _).alloc (by simp) _⟩
end Go.Proofs.YtdmnoogppmckaaaGreat
