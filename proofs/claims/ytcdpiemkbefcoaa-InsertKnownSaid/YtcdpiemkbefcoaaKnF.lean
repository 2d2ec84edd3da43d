/-
  What 'InsertKnown' comes to: facts, and what stands while it goes on.
-/
import Derived.Test.YtcdpiemkbefcoaaPr
import Derived.Test.YtcdpiemkbefcoaaDq
namespace Go.Proofs.Ytcdpiemkbefcoaa
open Go.RowKit

def vB : Array Value := #[.int .i64 0, .int .i64 0, .int .i64 0, .int .i64 0, .int .i64 40]
def vL : Array Value := #[.int .i64 0, .int .i64 0, .int .i64 5, .int .i64 0, .int .i64 19]
def rqA : Rq := rqOf [0, 0, 0, 0, 0, 40, 0, 40, 1, 0]
def tO : List Rq := tC ++ [rqOf []]
def allL (k : Nat) : List Rq := List.replicate k rqA
def pairI (i : Nat) : List (Int × Int) := [((i : Int), 0), ((i : Int), 1)]
def manyL (k : Nat) : List (Int × Int) := (List.range (min k 8)).flatMap pairI
theorem allL_succ (k : Nat) : allL (k + 1) = allL k ++ [rqA] := by
  unfold allL
  rw [List.replicate_succ']
theorem manyL_succ (k : Nat) (h : k < 8) : manyL (k + 1) = manyL k ++ [((k : Int), 0), ((k : Int), 1)] := by
  unfold manyL
  rw [Nat.min_eq_left (by omega), Nat.min_eq_left (by omega), List.range_succ, List.flatMap_append]
  rfl
theorem manyL_len (k : Nat) : (manyL k).length ≤ 16 := by
  unfold manyL
  have : ∀ n, ((List.range n).flatMap pairI).length = 2 * n := by
    intro n
    induction n with
    | zero => rfl
    | succ n ih => rw [List.range_succ, List.flatMap_append, List.length_append, ih]; simp [pairI]; omega
  rw [this]
  omega
theorem manyL_nine : manyL 9 = manyL 8 := rfl
theorem prs16_ok : ((prs 16).all fun x => decide (0 ≤ x.1 ∧ x.1 ≤ x.2 ∧ x.2 ≤ 16)) = true := by kernel_rfl
theorem prs16_len : (prs 16).length = 153 := by kernel_rfl
theorem prs17 : prs 17 = [] := by kernel_rfl
theorem q_r0 : riseP 0 0 0 0 40 lC tC 0 0 0 = (0, 8) := by kernel_rfl
theorem q_r1 : riseP 0 0 0 0 40 lC tC 1 9 9 = (0, 2) := by kernel_rfl
theorem q_r2 : riseP 0 0 5 0 40 lC tO 1 0 0 = (0, 2) := by kernel_rfl
theorem q_r3 : riseP 0 0 5 0 40 (lC.take 1) tC 1 0 0 = (0, 8) := by kernel_rfl
theorem q_r4 : riseP 0 0 5 0 19 lC tC 1 0 0 = (0, 9) := by kernel_rfl
theorem q_r5 : riseP 0 0 5 0 40 (manyL 9) (allL 9) 8 40 40 = (0, 11) := by kernel_rfl
theorem q_r6 : riseP 0 0 5 0 40 ((manyL 9).take 14) (allL 9) 8 3 9 = (0, 0) := by kernel_rfl
theorem q_r7 : riseP 0 0 5 0 40 ((manyL 9).take 14) (allL 9) 8 3 15 = (0, 8) := by kernel_rfl
theorem q_d0 : detP 0 0 5 0 19 lC tC 1 0 0 = (0, 9) := by kernel_rfl
theorem q_d1 : detP 0 0 5 0 40 ((manyL 9).take 14) (allL 9) 8 3 9 = (0, 0) := by kernel_rfl
theorem run_bqA (w : World) : (Instr.build 47 #[(2, .agg #[.int .i64 0, .int .i64 40]), (3, .agg #[.int .i64 0, .int .i64 40]), (4, .int .i64 1)]).run Try.prog w = .ok (.agg (rqV rqA).toArray) w := by kernel_rfl
theorem rsl_rq0 (w : World) : (Instr.buildSlice 30 0 #[]).run Try.prog w = .ok (.slice (some ⟨w.heap.size, 0, none⟩) 0 0) (w.alloc (.cells #[] 47)) := by kernel_rfl
theorem rsl_st2 (i : Int) (w : World) : (Instr.buildSlice 29 2 #[(0, .agg #[.int .i64 i, .int .i64 0]), (1, .agg #[.int .i64 i, .int .i64 1])]).run Try.prog w = .ok (.slice (some ⟨w.heap.size, 0, none⟩) 2 2) (w.alloc (.cells (stV (i, 0) ++ stV (i, 1)).toArray 55)) := by kernel_rfl
/-- two rows of elements of unlike types lie apart -/
theorem own_apart {w : World} {b1 b2 : Nat} {E1 E2 : TypeId} {n1 n2 k1 k2 : Nat} {v1 v2 : Value} {x1 x2 : List Value} (h1 : w.ownsRow b1 E1 n1 v1 k1 x1) (h2 : w.ownsRow b2 E2 n2 v2 k2 x2) (hE : E1 ≠ E2) : v1.ownBlock = none ∨ v1.ownBlock ≠ v2.ownBlock := by
  rcases h1.2 with ⟨rfl, _⟩ | ⟨g, cap, cur, rfl, _, hg, _⟩
  · exact .inl rfl
  · refine .inr fun e => ?_
    rcases h2.2 with ⟨rfl, _⟩ | ⟨g2, cap2, cur2, rfl, _, hg2, _⟩
    · cases e
    · simp only [Value.ownBlock, Option.some.injEq] at e
      subst e
      rw [hg] at hg2
      cases hg2
      exact hE rfl
/-- the cells, the slots' memory: what stands still -/
structure KnS (w : World) (a b : Addr) (bV g4 g5 : Nat) (po : Option Addr) (top : Nat) (W : World) : Prop where
  r : Blk W w.heap.size #[.bool false] 4
  v : Blk W bV vC 28
  x4 : Blk W g4 vB 28
  x5 : Blk W g5 vL 28
  l : Els W (some a) 2 (lC.map stV)
  t : Els W (some b) 10 (tC.map rqV)
  o : Els W po 10 (tO.map rqV)
  low : Below w.heap.size w W
  top : w.heap.size < top ∧ bV < top ∧ g4 < top ∧ g5 < top ∧ a.block < top ∧ b.block < top ∧ (∀ c, po = some c → c.block < top) ∧ top ≤ W.heap.size
theorem KnS.mod {w : World} {a b : Addr} {bV g4 g5 top : Nat} {po : Option Addr} {A B : World} (h : KnS w a b bV g4 g5 po top A) {S : Nat → Prop} (hm : Mod S A B) (hS : ∀ k, S k → top ≤ k) : KnS w a b bV g4 g5 po top B := by
  obtain ⟨h1, h2, h3, h4, h5, h6, h7, h8, t1, t2, t3, t4, t5, t6, t7, t8⟩ := h
  exact ⟨h1.mod hm (fun s => by have := hS _ s; omega), h2.mod hm (fun s => by have := hS _ s; omega), h3.mod hm (fun s => by have := hS _ s; omega), h4.mod hm (fun s => by have := hS _ s; omega),
    h5.mod hm (fun p e s => by cases e; have := hS _ s; omega), h6.mod hm (fun p e s => by cases e; have := hS _ s; omega), h7.mod hm (fun p e s => by have := hS _ s; have := t7 p e; omega), h8.trans (hm.below h8.size (fun k s => by have := hS _ s; omega)), t1, t2, t3, t4, t5, t6, t7, Nat.le_trans t8 hm.size⟩
/-- with the long route, and its requests -/
structure KnT (w : World) (a b : Addr) (bV g4 g5 : Nat) (po : Option Addr) (top : Nat) (pm pa : Option Addr) (top2 : Nat) (W : World) : Prop where
  s : KnS w a b bV g4 g5 po top W
  m : Els W pm 2 ((manyL 9).map stV)
  al : Els W pa 10 ((allL 9).map rqV)
  le : top ≤ top2 ∧ top2 ≤ W.heap.size ∧ (∀ c, pm = some c → c.block < top2) ∧ (∀ c, pa = some c → c.block < top2)
theorem KnT.mod {w : World} {a b : Addr} {bV g4 g5 top top2 : Nat} {po pm pa : Option Addr} {A B : World} (h : KnT w a b bV g4 g5 po top pm pa top2 A) {S : Nat → Prop} (hm : Mod S A B) (hS : ∀ k, S k → top2 ≤ k) : KnT w a b bV g4 g5 po top pm pa top2 B := by
  obtain ⟨h1, h2, h3, t1, t2, t3, t4⟩ := h
  exact ⟨h1.mod hm (fun k s => by have := hS _ s; omega), h2.mod hm (fun p e s => by have := hS _ s; have := t3 p e; omega), h3.mod hm (fun p e s => by have := hS _ s; have := t4 p e; omega), t1, Nat.le_trans t2 hm.size, t3, t4⟩
/-- and the count, and the marks of the two loops -/
structure KnK (w : World) (a b : Addr) (bV g4 g5 : Nat) (po : Option Addr) (top : Nat) (pm pa : Option Addr) (top2 g7 m1 m2 : Nat) (W : World) : Prop where
  t : KnT w a b bV g4 g5 po top pm pa top2 W
  n : Blk W g7 #[.int .i64 153] 3
  d1 : W.heap[m1]? = some (.deferred (some []))
  d2 : W.heap[m2]? = some (.deferred (some []))
section
variable {w : World} {a b : Addr} {bV g4 g5 top top2 g7 m1 m2 : Nat} {po pm pa : Option Addr} {W W' : World}
theorem KnK.mod (h : KnK w a b bV g4 g5 po top pm pa top2 g7 m1 m2 W) (hm : Mod (fun _ => False) W W') : KnK w a b bV g4 g5 po top pm pa top2 g7 m1 m2 W' :=
  ⟨h.t.mod hm (fun _ h => h.elim), h.n.mod hm (fun h => h), (hm.block _ (Array.getElem?_eq_some_iff.1 h.d1).1 (fun h => h)).trans h.d1, (hm.block _ (Array.getElem?_eq_some_iff.1 h.d2).1 (fun h => h)).trans h.d2⟩
theorem KnK.lv (h : KnK w a b bV g4 g5 po top pm pa top2 g7 m1 m2 W) : (loadVar 28 ⟨bV, 0, none⟩).run Try.prog W = .ok (.agg vC) W := run_load_row' (P := Try.prog) W bV 28 vC 28 _ h.t.s.v Try.underlying28 rfl (by kernel_rfl)
theorem KnK.l4 (h : KnK w a b bV g4 g5 po top pm pa top2 g7 m1 m2 W) : (loadVar 28 ⟨g4, 0, none⟩).run Try.prog W = .ok (.agg vB) W := run_load_row' (P := Try.prog) W g4 28 vB 28 _ h.t.s.x4 Try.underlying28 rfl (by kernel_rfl)
theorem KnK.l5 (h : KnK w a b bV g4 g5 po top pm pa top2 g7 m1 m2 W) : (loadVar 28 ⟨g5, 0, none⟩).run Try.prog W = .ok (.agg vL) W := run_load_row' (P := Try.prog) W g5 28 vL 28 _ h.t.s.x5 Try.underlying28 rfl (by kernel_rfl)
theorem KnK.m14 (h : KnK w a b bV g4 g5 po top pm pa top2 g7 m1 m2 W) : Els W pm 2 (((manyL 9).take 14).map stV) := by
  rw [List.map_take]
  exact h.t.m.take 14
theorem KnK.l1 (h : KnK w a b bV g4 g5 po top pm pa top2 g7 m1 m2 W) : Els W (some a) 2 ((lC.take 1).map stV) := by
  rw [List.map_take]
  exact h.t.s.l.take 1
theorem KnK.k0 (h : KnK w a b bV g4 g5 po top pm pa top2 g7 m1 m2 W) : Calls Try.prog 19 #[.agg vB, .slice (some a) 2 2, .slice (some b) 2 2, .agg #[.int .i64 0, .int .i64 0, .int .i64 0], .int .i64 8] W fun e w' => e = .returned (.bool true) ∧ Below W.heap.size W w' := by
  have := not_calls 0 0 0 0 40 0 0 0 8 (some a) (some b) 2 2 lC tC W h.t.s.l (by decide) h.t.s.t
  rw [q_r0] at this
  simp only [decide_true] at this
  exact this
theorem KnK.k1 (h : KnK w a b bV g4 g5 po top pm pa top2 g7 m1 m2 W) : Calls Try.prog 19 #[.agg vB, .slice (some a) 2 2, .slice (some b) 2 2, .agg #[.int .i64 1, .int .i64 9, .int .i64 9], .int .i64 2] W fun e w' => e = .returned (.bool true) ∧ Below W.heap.size W w' := by
  have := not_calls 0 0 0 0 40 1 9 9 2 (some a) (some b) 2 2 lC tC W h.t.s.l (by decide) h.t.s.t
  rw [q_r1] at this
  simp only [decide_true] at this
  exact this
theorem KnK.k2 (h : KnK w a b bV g4 g5 po top pm pa top2 g7 m1 m2 W) (co : Nat) : Calls Try.prog 19 #[.agg vC, .slice (some a) 2 2, .slice po 3 co, .agg #[.int .i64 1, .int .i64 0, .int .i64 0], .int .i64 2] W fun e w' => e = .returned (.bool true) ∧ Below W.heap.size W w' := by
  have := not_calls 0 0 5 0 40 1 0 0 2 (some a) po 2 co lC tO W h.t.s.l (by decide) h.t.s.o
  rw [q_r2] at this
  simp only [decide_true] at this
  exact this
theorem KnK.k3 (h : KnK w a b bV g4 g5 po top pm pa top2 g7 m1 m2 W) : Calls Try.prog 19 #[.agg vC, .slice (some a) 1 2, .slice (some b) 2 2, .agg #[.int .i64 1, .int .i64 0, .int .i64 0], .int .i64 8] W fun e w' => e = .returned (.bool true) ∧ Below W.heap.size W w' := by
  have := not_calls 0 0 5 0 40 1 0 0 8 (some a) (some b) 2 2 (lC.take 1) tC W h.l1 (by decide) h.t.s.t
  rw [q_r3] at this
  simp only [decide_true] at this
  exact this
theorem KnK.k4 (h : KnK w a b bV g4 g5 po top pm pa top2 g7 m1 m2 W) : Calls Try.prog 19 #[.agg vL, .slice (some a) 2 2, .slice (some b) 2 2, .agg #[.int .i64 1, .int .i64 0, .int .i64 0], .int .i64 9] W fun e w' => e = .returned (.bool true) ∧ Below W.heap.size W w' := by
  have := not_calls 0 0 5 0 19 1 0 0 9 (some a) (some b) 2 2 lC tC W h.t.s.l (by decide) h.t.s.t
  rw [q_r4] at this
  simp only [decide_true] at this
  exact this
theorem KnK.k5 (h : KnK w a b bV g4 g5 po top pm pa top2 g7 m1 m2 W) (cm : Nat) (ca : Nat) (hc : 16 ≤ cm) : Calls Try.prog 19 #[.agg vC, .slice pm 16 cm, .slice pa 9 ca, .agg #[.int .i64 8, .int .i64 40, .int .i64 40], .int .i64 11] W fun e w' => e = .returned (.bool true) ∧ Below W.heap.size W w' := by
  have := not_calls 0 0 5 0 40 8 40 40 11 pm pa cm ca (manyL 9) (allL 9) W h.t.m hc h.t.al
  rw [q_r5] at this
  simp only [decide_true] at this
  exact this
theorem KnK.k6 (h : KnK w a b bV g4 g5 po top pm pa top2 g7 m1 m2 W) (cm : Nat) (ca : Nat) (hc : 16 ≤ cm) : Calls Try.prog 20 #[.agg vC, .slice pm 14 cm, .slice pa 9 ca, .agg #[.int .i64 8, .int .i64 3, .int .i64 9], .int .i64 0] W fun e w' => e = .returned (.bool true) ∧ Below W.heap.size W w' := by
  have := costs_calls 0 0 5 0 40 8 3 9 0 pm pa cm ca ((manyL 9).take 14) (allL 9) W h.m14 (show 14 ≤ cm by omega) h.t.al
  rw [q_r6] at this
  simp only [decide_true] at this
  exact this
theorem KnK.k7 (h : KnK w a b bV g4 g5 po top pm pa top2 g7 m1 m2 W) (cm : Nat) (ca : Nat) (hc : 16 ≤ cm) : Calls Try.prog 19 #[.agg vC, .slice pm 14 cm, .slice pa 9 ca, .agg #[.int .i64 8, .int .i64 3, .int .i64 15], .int .i64 8] W fun e w' => e = .returned (.bool true) ∧ Below W.heap.size W w' := by
  have := not_calls 0 0 5 0 40 8 3 15 8 pm pa cm ca ((manyL 9).take 14) (allL 9) W h.m14 (show 14 ≤ cm by omega) h.t.al
  rw [q_r7] at this
  simp only [decide_true] at this
  exact this
theorem KnK.e0 (h : KnK w a b bV g4 g5 po top pm pa top2 g7 m1 m2 W) : Calls Try.prog 16 #[.agg vL, .slice (some a) 2 2, .slice (some b) 2 2, .int .i64 1, .int .i64 0, .int .i64 0] W fun e w' => e = .returned (.tuple #[.int .i64 0, .int .i64 9]) ∧ Below W.heap.size W w' := by
  have := detour_calls 0 0 5 0 19 1 0 0 (some a) (some b) 2 2 lC tC W h.t.s.l (by decide) h.t.s.t
  rw [q_d0] at this
  exact this
theorem KnK.e1 (h : KnK w a b bV g4 g5 po top pm pa top2 g7 m1 m2 W) (cm : Nat) (ca : Nat) (hc : 16 ≤ cm) : Calls Try.prog 16 #[.agg vC, .slice pm 14 cm, .slice pa 9 ca, .int .i64 8, .int .i64 3, .int .i64 9] W fun e w' => e = .returned (.tuple #[.int .i64 0, .int .i64 0]) ∧ Below W.heap.size W w' := by
  have := detour_calls 0 0 5 0 40 8 3 9 pm pa cm ca ((manyL 9).take 14) (allL 9) W h.m14 (show 14 ≤ cm by omega) h.t.al
  rw [q_d1] at this
  exact this
end
end Go.Proofs.Ytcdpiemkbefcoaa
