/-
  Layer 13, the document's: Same, Ints; layer 6's Same.
  Layer 13, the document's: a draft of vehicles and requests: Parts.
  Layer 13: the chapter's examples: chapter, pair.
-/
import Derived.Test.YtkaoflndbcfodaaGreatPj
import Derived.Test.YtkaoflndbcfodaaGreatDp
namespace Go.Proofs.YtkaoflndbcfodaaGreat
open Go.RowKit

theorem run_neqV (w : World) (a b c d : Int) : (binOp .neq 125 (.agg #[.int .i64 a, .int .i64 b]) (.agg #[.int .i64 c, .int .i64 d])).run Tryz.prog w = .ok (.bool (((a, b) : Int × Int) != (c, d))) w := by
  by_cases h1 : a = c <;> by_cases h2 : b = d <;> go_simp <;> simp_all [bne, BEq.beq]
theorem run_neqSt {ρ : Operand → Value} {o : Oper} {w : World} {x y : Operand} {s u : Int × Int} (ho : o.op = .binOp .neq 125 x y 125) (hx : ρ x = .agg #[.int .i64 s.1, .int .i64 s.2]) (hy : ρ y = .agg #[.int .i64 u.1, .int .i64 u.2]) :
    (execOp ρ o).run Tryz.prog w = .ok (.value (.bool (s != u))) w := by
  unfold execOp
  simp only [ho, hx, hy, Sem.run_bind, run_neqV, Sem.run_pure]
  go_simp
theorem run_notS {ρ : Operand → Value} {o : Oper} {w : World} {x : Operand} {b : Bool} (ho : o.op = .unOp .not 4 x) (hx : ρ x = .bool b) : (execOp ρ o).run Tryz.prog w = .ok (.value (.bool (!b))) w := by
  unfold execOp
  simp only [ho, hx]
  go_simp
theorem run_ixRs {ρ : Operand → Value} {o : Oper} {w : World} {x y : Operand} {a : Addr} {n c k : Nat} (ho : o.op = .indexAddr 106 x y) (hx : ρ x = .slice (some a) n c) (hy : ρ y = .int .i64 k) (hk : k < n) : (execOp ρ o).run Tryz.prog w = .ok (.value (.pointer (some (a.add k)))) w := by
  have h0 : (0 : Int) ≤ (k : Int) := by omega
  have h1 : (k : Int) < (n : Int) := by omega
  have h2 : ((k : Int)).toNat = k := by omega
  unfold execOp
  simp only [ho, hx, hy]
  go_simp
theorem run_callSm {ρ : Operand → Value} {o : Oper} {w : World} {x y : Operand} {a b : Value} (ho : o.op = .call { callee := .value (.func 68), args := #[x, y], argTypes := #[82, 82] }) (hx : ρ x = a) (hy : ρ y = b)
    (hf : ρ (.func 68) = .func (.func 68) #[] #[] := by rfl) : (execOp ρ o).run Tryz.prog w = .ok (.enter 68 #[a, b]) w := by
  unfold execOp
  simp only [ho]
  go_simp
set_option maxHeartbeats 1000000 in
set_option maxRecDepth 100000 in
/-- are both rows alike? -/
theorem rsame_calls (p q : Option Addr) (c d : Nat) (A B : List (Int × Int)) (w : World) (hA : Els w p 2 (A.map stV)) (hB : Els w q 2 (B.map stV)) :
    Calls Tryz.prog 68 #[.slice p A.length c, .slice q B.length d] w fun e w' => e = .returned (.bool (decide (A = B))) ∧ Below w.heap.size w w' := by
  have hbig : A.length ≤ 140737488351232 := by simpa using hA.big
  have hbig2 : B.length ≤ 140737488351232 := by simpa using hB.big
  replace hA := Lib.hid hA
  replace hB := Lib.hid hB
  by_cases hl : A.length = B.length
  · have hX : Hid (decide (A = B) = true ↔ ∀ k (h1 : k < A.length) (h2 : k < B.length), A[k] = B[k]) := Lib.hid ⟨fun h k h1 h2 => by have e := of_decide_eq_true h; subst e; rfl, fun h => decide_eq_true (List.ext_getElem hl (fun k h1 h2 => h k h1 h2))⟩
    generalize decide (A = B) = X at *
    go_enter Tryz.func68, Tryz.ntmps68
    rw [← hl]
    replace hl := Lib.hid hl
    go_wp2_with fail
    go_loopw [5] (fun s5 wx => ∃ k : Nat, k ≤ A.length ∧ s5 = .int .i64 k ∧ Hid (∀ j (h1 : j < A.length) (h2 : j < B.length), j < k → A[j] = B[j]) ∧ ∃ m, wx = w.drewN m) (fun s5 _ => A.length - (intOf s5).toNat)
    case atStart => exact ⟨0, Nat.zero_le _, rfl, Lib.hid (fun j _ _ h => by omega), 0, rfl⟩
    case round =>
      obtain ⟨k, hk, rfl, hR, m, rfl⟩ := hrel
      by_cases hlt : k < A.length
      · have hltI : (k : Int) < (A.length : Int) := by omega
        have hk0 : (0 : Int) ≤ (k : Int) := by omega
        have s1 : IntKind.i64.wrap ((k : Int) + 1) = (k : Int) + 1 := IntWalk.i64_in _ (by omega)
        have hlb : k < B.length := by rw [← hl.out]; exact hlt
        obtain ⟨a, ha⟩ := hA.out.some_of (k := k) (by simpa using hlt)
        subst ha
        obtain ⟨b, hb⟩ := hB.out.some_of (k := k) (by simpa using hlb)
        subst hb
        have ca : ∀ n, (loadVar 125 (a.add (k * 2))).run Tryz.prog (w.drewN n) = .ok (.agg #[.int .i64 A[k].1, .int .i64 A[k].2]) (w.drewN n) := fun n => by
          have := (hA.out.below (below_drewN (Below.refl _ _) n)).load (P := Tryz.prog) (a := a) rfl (k := k) (by simpa using hlt) (ty := 125) Tryz.underlying125 rfl (by kernel_rfl)
          rw [List.getElem_map] at this
          exact this
        have cb : ∀ n, (loadVar 125 (b.add (k * 2))).run Tryz.prog (w.drewN n) = .ok (.agg #[.int .i64 B[k].1, .int .i64 B[k].2]) (w.drewN n) := fun n => by
          have := (hB.out.below (below_drewN (Below.refl _ _) n)).load (P := Tryz.prog) (a := b) rfl (k := k) (by simpa using hlb) (ty := 125) Tryz.underlying125 rfl (by kernel_rfl)
          rw [List.getElem_map] at this
          exact this
        have hno : Hid (A[k] ≠ B[k] → X = false) := Lib.hid (fun h => by
          cases X with
          | false => rfl
          | true => exact absurd (hX.out.1 rfl k hlt hlb) h)
        have hR' : Hid (A[k] = B[k] → ∀ j (h1 : j < A.length) (h2 : j < B.length), j < k + 1 → A[j] = B[j]) := Lib.hid (fun h j h1 h2 hj => by
          by_cases e : j = k
          · subst e; exact h
          · exact hR.out j h1 h2 (by omega))
        replace ca := Lib.hid ca
        replace cb := Lib.hid cb
        clear hR
        generalize A[k] = x at *
        generalize B[k] = y at *
        obtain ⟨g, hg⟩ : ∃ g, (x != y) = g := ⟨_, rfl⟩
        replace hg := Lib.hid hg
        go_upto_region 6 with fail
        refine wp_region_quiet_lit (by kernel_rfl) (by kernel_rfl) ?_
        iterate 3 (go_big_quiet_step (fail))
        refine wpQuiet_v rfl (.agg #[.int .i64 x.1, .int .i64 x.2]) (by rintro _ ⟨j, rfl⟩; rw [World.drewN_drewN]; exact run_load_v rfl rfl (ca.out _)) ?_
        simp only [Act.put, List.setIfInBounds_toArray, List.set_cons_succ, List.set_cons_zero]
        iterate 3 (go_big_quiet_step (fail))
        refine wpQuiet_v rfl (.agg #[.int .i64 y.1, .int .i64 y.2]) (by rintro _ ⟨j, rfl⟩; rw [World.drewN_drewN]; exact run_load_v rfl rfl (cb.out _)) ?_
        simp only [Act.put, List.setIfInBounds_toArray, List.set_cons_succ, List.set_cons_zero]
        refine wpQuiet_v rfl (.bool (x != y)) (by rintro _ ⟨j, rfl⟩; exact run_neqSt rfl rfl rfl) ?_
        simp only [Act.put, List.setIfInBounds_toArray, List.set_cons_succ, List.set_cons_zero]
        refine wpQuiet_nil ?_
        rintro _ ⟨j, rfl⟩
        rw [World.drewN_drewN, hg.out]
        cases g with
        | true =>
          obtain rfl : X = false := hno.out (by simpa using hg.out)
          clear hno hR' hX ca cb
          go_wp2
          go_ret
          exact ⟨rfl, below_drewN (Below.refl _ _) _⟩
        | false =>
          have hR2 := Lib.hid (hR'.out (by simpa using hg.out))
          clear hno hR' ca cb
          go_wp2_with fail
          go_roundw
          case rel => exact ⟨k + 1, by omega, by simp, hR2, _, rfl⟩
          case measure => simp [intOf]; omega
      · obtain rfl : X = true := hX.out.2 (fun j h1 h2 => hR.out j h1 h2 (by omega))
        clear hX hR
        go_wp2
        go_ret
        exact ⟨rfl, below_drewN (Below.refl _ _) _⟩
  · have hX : decide (A = B) = false := decide_eq_false (fun e => hl (by rw [e]))
    rw [hX]
    have n1 : ((A.length : Int) != (B.length : Int)) = true := by simpa using (show ¬ (A.length : Int) = (B.length : Int) by omega)
    have n2 : (A.length != B.length) = true := by simpa using hl
    go_enter Tryz.func68, Tryz.ntmps68
    go_wp2
    go_ret
    exact ⟨rfl, Below.refl _ _⟩
theorem rows_ext {A B : List Rou2} (hl : A.length = B.length) (h : ∀ k, k < A.length → A.getD k [] = B.getD k []) : A = B :=
  List.ext_getElem hl fun k h1 h2 => by
    have := h k h1
    rwa [List.getD_eq_getElem?_getD, List.getD_eq_getElem?_getD, List.getElem?_eq_getElem h1, List.getElem?_eq_getElem h2] at this
theorem rs_cell {w wx : World} {a : Addr} {rows : List Rou2} {qs : List (Option Addr × Nat)} (h : Els w (some a) 1 (rsV rows qs rows.length)) (hm : Mod (fun _ => False) w wx) {k : Nat} (hk : k < rows.length) : wx.cell? (a.add k) = some (.slice (qs.getD k (none, 0)).1 (rows.getD k []).length (qs.getD k (none, 0)).2) := by
  have h1 := h.cells a rfl k [.slice (qs.getD k (none, 0)).1 (rows.getD k []).length (qs.getD k (none, 0)).2] 0 _ (by simp [rsV, hk]) rfl
  rw [Nat.mul_one, Nat.add_zero] at h1
  exact hm.cell_of (fun h => h) h1
end Go.Proofs.YtkaoflndbcfodaaGreat
namespace Go.Proofs.YtkaoflndbcfodaaGreat
open Go.RowKit

/-- so many vehicles that are drawn -/
def drF (B : List Int) (k : Int) (m : Nat) : List Ve := (List.range m).map fun i : Nat => drV B (k + 5 * (i : Int))
theorem drF_len (B : List Int) (k : Int) (m : Nat) : (drF B k m).length = m := by simp [drF]
theorem drF_succ (B : List Int) (k : Int) (m : Nat) : drF B k (m + 1) = drF B k m ++ [drV B (k + 5 * (m : Int))] := by
  unfold drF
  rw [List.range_succ, List.map_append]
  rfl
theorem veR_lenP (F : List Ve) : ∀ x ∈ F.map veR, x.length = 5 := by
  intro x hx
  obtain ⟨s, _, rfl⟩ := List.mem_map.1 hx
  rfl
def ptN (n : Int) : Nat := (n % 10).toNat
def ptM (f : Int) : Nat := (f % 4).toNat + 1
def ptT (B : List Int) (n wd : Int) : List Rq := drT B wd 0 (ptN n)
def ptF (B : List Int) (n f : Int) : List Ve := drF B (8 * (ptN n : Int)) (ptM f)
def ptC (p : Option Addr) (c : Nat) (B : List Int) (n wd k f : Int) : Array Value := #[.slice p B.length c, .int .u8 n, .int .u8 wd, .int .i64 k, .int .u8 f]
def PtPost (w : World) (F : List Ve) (T : List Rq) (e : Ending) (w' : World) : Prop :=
  (∃ q d q' d', e = .returned (.tuple #[.slice q F.length d, .slice q' T.length d']) ∧ (F.length ≤ d ∧ d ≤ 9223372036854775807) ∧ (T.length ≤ d' ∧ d' ≤ 9223372036854775807) ∧ Els w' q 5 (F.map veR) ∧ Els w' q' 10 (T.map rqV) ∧
    (∀ a, q = some a → w.heap.size ≤ a.block) ∧ (∀ a, q' = some a → w.heap.size ≤ a.block)) ∧ Below w.heap.size w w'
theorem ve_el : ElT Tryz.prog 60 59 5 40 := ⟨Tryz.underlying60, by kernel_rfl, by kernel_rfl, by kernel_rfl, by omega, by omega⟩
theorem rsl_ve (v : Ve) (w : World) : (Instr.buildSlice 60 1 #[(0, .agg (veR v).toArray)]).run Tryz.prog w = .ok (.slice (some ⟨w.heap.size, 0, none⟩) 1 1) (w.alloc (.cells (veR v).toArray 59)) := by kernel_rfl
end Go.Proofs.YtkaoflndbcfodaaGreat
namespace Go.Proofs.YtkaoflndbcfodaaGreat
open Go.RowKit

theorem els_litP {w : World} {g n : Nat} {E : TypeId} {R : List (List Value)} (hB : Blk w g R.flatten.toArray E) (hl : ∀ x ∈ R, x.length = n) (hb : R.length ≤ 140737488351232) : Els w (some ⟨g, 0, none⟩) n R :=
  ⟨fun e => (by cases e), hl, hb, fun a ha k x j v hk hj => by
    cases ha
    rw [add0]
    exact hB.cell (by simpa using flat_at R k j x v hl hk hj)⟩
def chF : List Ve := [rqMk [0, 0, 5, 0, 40], rqMk [20, 0, 5, 0, 40]]
def chT : List Rq := [rqMk [5, 0, 9, 0, 0, 20, 0, 30, 3, 1], rqMk [15, 0, 18, 0, 0, 40, 0, 40, 2, 0]]
def prL (req : Int) : Rou2 := [(req, 0), (req, 1)]
end Go.Proofs.YtkaoflndbcfodaaGreat
