/-
  Layer 13, the document's: Same, Ints; layer 6's Same.
  Layer 13, the document's: a draft of vehicles and requests: Parts.
  Layer 13: the chapter's examples: chapter, pair.
-/
import Derived.Test.YtpbmeeogledmdaePj
import Derived.Test.YtpbmeeogledmdaeDp
namespace Go.Proofs.Ytpbmeeogledmdae
open Go.RowKit

theorem run_neqV (w : World) (a b c d : Int) : (binOp .neq 81 (.agg #[.int .i64 a, .int .i64 b]) (.agg #[.int .i64 c, .int .i64 d])).run Try.prog w = .ok (.bool (((a, b) : Int × Int) != (c, d))) w := by
  by_cases h1 : a = c <;> by_cases h2 : b = d <;> go_simp <;> simp_all [bne, BEq.beq]
theorem run_neqSt {ρ : Operand → Value} {o : Oper} {w : World} {x y : Operand} {s u : Int × Int} (ho : o.op = .binOp .neq 81 x y 81) (hx : ρ x = .agg #[.int .i64 s.1, .int .i64 s.2]) (hy : ρ y = .agg #[.int .i64 u.1, .int .i64 u.2]) :
    (execOp ρ o).run Try.prog w = .ok (.value (.bool (s != u))) w := by
  unfold execOp
  simp only [ho, hx, hy, Sem.run_bind, run_neqV, Sem.run_pure]
  go_simp
theorem run_notS {ρ : Operand → Value} {o : Oper} {w : World} {x : Operand} {b : Bool} (ho : o.op = .unOp .not 4 x) (hx : ρ x = .bool b) : (execOp ρ o).run Try.prog w = .ok (.value (.bool (!b))) w := by
  unfold execOp
  simp only [ho, hx]
  go_simp
theorem run_ixRs {ρ : Operand → Value} {o : Oper} {w : World} {x y : Operand} {a : Addr} {n c k : Nat} (ho : o.op = .indexAddr 29 x y) (hx : ρ x = .slice (some a) n c) (hy : ρ y = .int .i64 k) (hk : k < n) : (execOp ρ o).run Try.prog w = .ok (.value (.pointer (some (a.add k)))) w := by
  have h0 : (0 : Int) ≤ (k : Int) := by omega
  have h1 : (k : Int) < (n : Int) := by omega
  have h2 : ((k : Int)).toNat = k := by omega
  unfold execOp
  simp only [ho, hx, hy]
  go_simp
theorem rows_ext {A B : List Rou2} (hl : A.length = B.length) (h : ∀ k, k < A.length → A.getD k [] = B.getD k []) : A = B :=
  List.ext_getElem hl fun k h1 h2 => by
    have := h k h1
    rwa [List.getD_eq_getElem?_getD, List.getD_eq_getElem?_getD, List.getElem?_eq_getElem h1, List.getElem?_eq_getElem h2] at this
theorem rs_cell {w wx : World} {a : Addr} {rows : List Rou2} {qs : List (Option Addr × Nat)} (h : Els w (some a) 1 (rsV rows qs rows.length)) (hm : Mod (fun _ => False) w wx) {k : Nat} (hk : k < rows.length) : wx.cell? (a.add k) = some (.slice (qs.getD k (none, 0)).1 (rows.getD k []).length (qs.getD k (none, 0)).2) := by
  have h1 := h.cells a rfl k [.slice (qs.getD k (none, 0)).1 (rows.getD k []).length (qs.getD k (none, 0)).2] 0 _ (by simp [rsV, hk]) rfl
  rw [Nat.mul_one, Nat.add_zero] at h1
  exact hm.cell_of (fun h => h) h1
end Go.Proofs.Ytpbmeeogledmdae
namespace Go.Proofs.Ytpbmeeogledmdae
open Go.RowKit

/-- so many vehicles that are drawn -/
def drF (B : List Int) (k : Int) (m : Nat) : List Ve := (List.range m).map fun i : Nat => drV B (k + 5 * (i : Int))
theorem drF_len (B : List Int) (k : Int) (m : Nat) : (drF B k m).length = m := by simp [drF]
theorem drF_succ (B : List Int) (k : Int) (m : Nat) : drF B k (m + 1) = drF B k m ++ [drV B (k + 5 * (m : Int))] := by
  unfold drF
  rw [List.range_succ, List.map_append]
  rfl
theorem veR_lenP (F : List Ve) : ∀ x ∈ F.map veR, x.length = 5 := by
  intro x hx
  obtain ⟨s, _, rfl⟩ := List.mem_map.1 hx
  rfl
def ptN (n : Int) : Nat := (n % 10).toNat
def ptM (f : Int) : Nat := (f % 4).toNat + 1
def ptT (B : List Int) (n wd : Int) : List Rq := drT B wd 0 (ptN n)
def ptF (B : List Int) (n f : Int) : List Ve := drF B (8 * (ptN n : Int)) (ptM f)
def ptC (p : Option Addr) (c : Nat) (B : List Int) (n wd k f : Int) : Array Value := #[.slice p B.length c, .int .u8 n, .int .u8 wd, .int .i64 k, .int .u8 f]
def PtPost (w : World) (F : List Ve) (T : List Rq) (e : Ending) (w' : World) : Prop :=
  (∃ q d q' d', e = .returned (.tuple #[.slice q F.length d, .slice q' T.length d']) ∧ (F.length ≤ d ∧ d ≤ 9223372036854775807) ∧ (T.length ≤ d' ∧ d' ≤ 9223372036854775807) ∧ Els w' q 5 (F.map veR) ∧ Els w' q' 10 (T.map rqV) ∧
    (∀ a, q = some a → w.heap.size ≤ a.block) ∧ (∀ a, q' = some a → w.heap.size ≤ a.block)) ∧ Below w.heap.size w w'
theorem ve_el : ElT Try.prog 28 47 5 40 := ⟨Try.underlying28, by kernel_rfl, by kernel_rfl, by kernel_rfl, by omega, by omega⟩
theorem rsl_ve (v : Ve) (w : World) : (Instr.buildSlice 28 1 #[(0, .agg (veR v).toArray)]).run Try.prog w = .ok (.slice (some ⟨w.heap.size, 0, none⟩) 1 1) (w.alloc (.cells (veR v).toArray 47)) := by kernel_rfl
end Go.Proofs.Ytpbmeeogledmdae
namespace Go.Proofs.Ytpbmeeogledmdae
open Go.RowKit

theorem els_litP {w : World} {g n : Nat} {E : TypeId} {R : List (List Value)} (hB : Blk w g R.flatten.toArray E) (hl : ∀ x ∈ R, x.length = n) (hb : R.length ≤ 140737488351232) : Els w (some ⟨g, 0, none⟩) n R :=
  ⟨fun e => (by cases e), hl, hb, fun a ha k x j v hk hj => by
    cases ha
    rw [add0]
    exact hB.cell (by simpa using flat_at R k j x v hl hk hj)⟩
def chF : List Ve := [rqMk [0, 0, 5, 0, 40], rqMk [20, 0, 5, 0, 40]]
def chT : List Rq := [rqMk [5, 0, 9, 0, 0, 20, 0, 30, 3, 1], rqMk [15, 0, 18, 0, 0, 40, 0, 40, 2, 0]]
def prL (req : Int) : Rou2 := [(req, 0), (req, 1)]
end Go.Proofs.Ytpbmeeogledmdae
