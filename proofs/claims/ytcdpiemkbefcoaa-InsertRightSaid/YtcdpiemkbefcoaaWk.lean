/-
  Layer 11, the laws': works.
-/
import Derived.Test.YtcdpiemkbefcoaaAg
namespace Go.Proofs.Ytcdpiemkbefcoaa
open Go.RowKit
attribute [local go_sem] Oper.semAt_some

def v4 : Array Value := #[.int .i64 0, .int .i64 0, .int .i64 4, .int .i64 0, .int .i64 40]
def v5 : Array Value := #[.int .i64 0, .int .i64 0, .int .i64 5, .int .i64 0, .int .i64 33]
def one3 : List (Int × Int) := [(0, 0), (0, 1), (1, 1)]
theorem prs_one : prs 1 = one3 := by decide
theorem prs_neg : prs (-1) = [] := by decide
/-- what stands still while works goes on -/
structure WkS (w : World) (a b : Addr) (bV g4 g5 gs g6 top : Nat) (W : World) : Prop where
  r : Blk W w.heap.size #[.bool false] 4
  v : Blk W bV vC 28
  x4 : Blk W g4 v4 28
  x5 : Blk W g5 v5 28
  o : Els W (some ⟨gs, 0, none⟩) 2 (one3.map stV)
  x6 : Blk W g6 #[.slice (some ⟨gs, 0, none⟩) 3 3] 38
  l : Els W (some a) 2 (lC.map stV)
  t : Els W (some b) 10 (tC.map rqV)
  low : Below w.heap.size w W
  top : w.heap.size < top ∧ bV < top ∧ g4 < top ∧ g5 < top ∧ gs < top ∧ g6 < top ∧ a.block < top ∧ b.block < top ∧ top ≤ W.heap.size
theorem WkS.mod {w : World} {a b : Addr} {bV g4 g5 gs g6 top : Nat} {A B : World} (h : WkS w a b bV g4 g5 gs g6 top A) {S : Nat → Prop} (hm : Mod S A B) (hS : ∀ k, S k → top ≤ k) : WkS w a b bV g4 g5 gs g6 top B := by
  obtain ⟨h1, h2, h3, h4, h5, h6, h7, h8, h9, t1, t2, t3, t4, t5, t6, t7, t8, t9⟩ := h
  exact ⟨h1.mod hm (fun s => by have := hS _ s; omega), h2.mod hm (fun s => by have := hS _ s; omega), h3.mod hm (fun s => by have := hS _ s; omega), h4.mod hm (fun s => by have := hS _ s; omega), h5.mod hm (fun p e s => by cases e; have : top ≤ gs := hS _ s; omega), h6.mod hm (fun s => by have := hS _ s; omega),
    h7.mod hm (fun p e s => by cases e; have := hS _ s; omega), h8.mod hm (fun p e s => by cases e; have := hS _ s; omega), h9.trans (hm.below h9.size (fun k s => by have := hS _ s; omega)), t1, t2, t3, t4, t5, t6, t7, t8, Nat.le_trans t9 hm.size⟩

def WkP (w : World) (a b : Addr) (bV g4 g5 : Nat) (X4 X5 : Array Value) (W : World) : Prop :=
  Blk W w.heap.size #[.bool false] 4 ∧ Blk W bV vC 28 ∧ Blk W g4 X4 28 ∧ Blk W g5 X5 28 ∧ Els W (some a) 2 (lC.map stV) ∧ Els W (some b) 10 (tC.map rqV) ∧ Below w.heap.size w W
theorem run_nilF {ρ : Operand → Value} {o : Oper} {w : World} {x y : Operand} {f : Nat} {lb : Array Value} (ho : o.op = .binOp .eql 57 x y 57) (hx : ρ x = .func (.func f) #[] lb) (hy : ρ y = .nilFunc) :
    (execOp ρ o).run Try.prog w = .ok (.value (.bool false)) w := by
  unfold execOp
  simp only [ho, hx, hy]
  kernel_rfl
theorem add0 (g n : Nat) : (⟨g, 0, none⟩ : Addr).add n = ⟨g, n, none⟩ := by unfold Addr.add; split <;> simp_all
theorem run_cellB {w : World} {g : Nat} {v : Bool} (h : w.cell? ⟨g, 0, none⟩ = some (.bool v)) : (loadVar 4 ⟨g, 0, none⟩).run Try.prog w = .ok (.bool v) w := by go_simp
theorem rsl_o3 (w : World) : (Instr.buildSlice 38 3 #[(0, .agg #[.int .i64 0, .int .i64 0]), (1, .agg #[.int .i64 0, .int .i64 1]), (2, .agg #[.int .i64 1, .int .i64 1])]).run Try.prog w = .ok (.slice (some ⟨w.heap.size, 0, none⟩) 3 3) (w.alloc (.cells (one3.map stV).flatten.toArray 41)) := by kernel_rfl
theorem o3_len : ∀ x ∈ one3.map stV, x.length = 2 := stV_len one3

/-- what stands while works' last part goes on -/
structure WkK (w : World) (a b : Addr) (bV g4 g5 gs g6 top g7 m1 m2 : Nat) (W : World) : Prop where
  s : WkS w a b bV g4 g5 gs g6 top W
  n : Blk W g7 #[.int .i64 3] 3
  d1 : W.heap[m1]? = some (.deferred (some []))
  d2 : W.heap[m2]? = some (.deferred (some []))
section
variable {w : World} {a b : Addr} {bV g4 g5 gs g6 top g7 m1 m2 : Nat} {W W' : World}
theorem WkK.after (h : WkK w a b bV g4 g5 gs g6 top g7 m1 m2 W) (hb : Below W.heap.size W W') : WkK w a b bV g4 g5 gs g6 top g7 m1 m2 W' :=
  have hm := (Mod.refl (fun _ => False) W).after hb
  ⟨h.s.mod hm (fun _ h => h.elim), h.n.mod hm (fun h => h), (hm.block _ (Array.getElem?_eq_some_iff.1 h.d1).1 (fun h => h)).trans h.d1, (hm.block _ (Array.getElem?_eq_some_iff.1 h.d2).1 (fun h => h)).trans h.d2⟩
theorem WkK.lv (h : WkK w a b bV g4 g5 gs g6 top g7 m1 m2 W) : (loadVar 28 ⟨bV, 0, none⟩).run Try.prog W = .ok (.agg vC) W := run_load_row' (P := Try.prog) W bV 28 vC 28 _ h.s.v Try.underlying28 rfl (by kernel_rfl)
theorem WkK.l4 (h : WkK w a b bV g4 g5 gs g6 top g7 m1 m2 W) : (loadVar 28 ⟨g4, 0, none⟩).run Try.prog W = .ok (.agg v4) W := run_load_row' (P := Try.prog) W g4 28 v4 28 _ h.s.x4 Try.underlying28 rfl (by kernel_rfl)
theorem WkK.l5 (h : WkK w a b bV g4 g5 gs g6 top g7 m1 m2 W) : (loadVar 28 ⟨g5, 0, none⟩).run Try.prog W = .ok (.agg v5) W := run_load_row' (P := Try.prog) W g5 28 v5 28 _ h.s.x5 Try.underlying28 rfl (by kernel_rfl)
theorem nil_els {W : World} : Els W none 2 (([] : List (Int × Int)).map stV) := ⟨fun _ => rfl, fun x hx => (by cases hx), by simp, fun a ha => by cases ha⟩
theorem WkK.c0 (h : WkK w a b bV g4 g5 gs g6 top g7 m1 m2 W) : Calls Try.prog 20 #[.agg vC, .slice (some a) 2 2, .slice (some b) 2 2, .agg #[.int .i64 1, .int .i64 1, .int .i64 1], .int .i64 6] W fun e w' => e = .returned (.bool true) ∧ Below W.heap.size W w' := by
  have := costs_calls 0 0 5 0 40 1 1 1 6 (some a) (some b) 2 2 lC tC W h.s.l (by decide) h.s.t
  rw [k_r0] at this
  simp only [decide_true] at this
  exact this
theorem WkK.c1 (h : WkK w a b bV g4 g5 gs g6 top g7 m1 m2 W) : Calls Try.prog 20 #[.agg vC, .slice (some a) 2 2, .slice (some b) 2 2, .agg #[.int .i64 1, .int .i64 1, .int .i64 2], .int .i64 12] W fun e w' => e = .returned (.bool true) ∧ Below W.heap.size W w' := by
  have := costs_calls 0 0 5 0 40 1 1 2 12 (some a) (some b) 2 2 lC tC W h.s.l (by decide) h.s.t
  rw [k_r1] at this
  simp only [decide_true] at this
  exact this
theorem WkK.c2 (h : WkK w a b bV g4 g5 gs g6 top g7 m1 m2 W) : Calls Try.prog 20 #[.agg vC, .slice (some a) 2 2, .slice (some b) 2 2, .agg #[.int .i64 1, .int .i64 2, .int .i64 2], .int .i64 14] W fun e w' => e = .returned (.bool true) ∧ Below W.heap.size W w' := by
  have := costs_calls 0 0 5 0 40 1 2 2 14 (some a) (some b) 2 2 lC tC W h.s.l (by decide) h.s.t
  rw [k_r2] at this
  simp only [decide_true] at this
  exact this
theorem WkK.c3 (h : WkK w a b bV g4 g5 gs g6 top g7 m1 m2 W) : Calls Try.prog 20 #[.agg vC, .slice (some a) 2 2, .slice (some b) 2 2, .agg #[.int .i64 1, .int .i64 0, .int .i64 0], .int .i64 14] W fun e w' => e = .returned (.bool true) ∧ Below W.heap.size W w' := by
  have := costs_calls 0 0 5 0 40 1 0 0 14 (some a) (some b) 2 2 lC tC W h.s.l (by decide) h.s.t
  rw [k_r3] at this
  simp only [decide_true] at this
  exact this
theorem WkK.c4 (h : WkK w a b bV g4 g5 gs g6 top g7 m1 m2 W) : Calls Try.prog 19 #[.agg v4, .slice (some a) 2 2, .slice (some b) 2 2, .agg #[.int .i64 1, .int .i64 1, .int .i64 1], .int .i64 10] W fun e w' => e = .returned (.bool true) ∧ Below W.heap.size W w' := by
  have := not_calls 0 0 4 0 40 1 1 1 10 (some a) (some b) 2 2 lC tC W h.s.l (by decide) h.s.t
  rw [k_r4] at this
  simp only [decide_true] at this
  exact this
theorem WkK.c5 (h : WkK w a b bV g4 g5 gs g6 top g7 m1 m2 W) : Calls Try.prog 20 #[.agg v4, .slice (some a) 2 2, .slice (some b) 2 2, .agg #[.int .i64 1, .int .i64 2, .int .i64 2], .int .i64 14] W fun e w' => e = .returned (.bool true) ∧ Below W.heap.size W w' := by
  have := costs_calls 0 0 4 0 40 1 2 2 14 (some a) (some b) 2 2 lC tC W h.s.l (by decide) h.s.t
  rw [k_r5] at this
  simp only [decide_true] at this
  exact this
theorem WkK.c6 (h : WkK w a b bV g4 g5 gs g6 top g7 m1 m2 W) : Calls Try.prog 19 #[.agg v5, .slice (some a) 2 2, .slice (some b) 2 2, .agg #[.int .i64 1, .int .i64 2, .int .i64 2], .int .i64 9] W fun e w' => e = .returned (.bool true) ∧ Below W.heap.size W w' := by
  have := not_calls 0 0 5 0 33 1 2 2 9 (some a) (some b) 2 2 lC tC W h.s.l (by decide) h.s.t
  rw [k_r6] at this
  simp only [decide_true] at this
  exact this
theorem WkK.c7 (h : WkK w a b bV g4 g5 gs g6 top g7 m1 m2 W) : Calls Try.prog 19 #[.agg vC, .slice (some a) 2 2, .slice (some b) 2 2, .agg #[.int .i64 0, .int .i64 0, .int .i64 0], .int .i64 8] W fun e w' => e = .returned (.bool true) ∧ Below W.heap.size W w' := by
  have := not_calls 0 0 5 0 40 0 0 0 8 (some a) (some b) 2 2 lC tC W h.s.l (by decide) h.s.t
  rw [k_r7] at this
  simp only [decide_true] at this
  exact this
theorem WkK.c8 (h : WkK w a b bV g4 g5 gs g6 top g7 m1 m2 W) : Calls Try.prog 19 #[.agg vC, .slice (some a) 2 2, .slice (some b) 2 2, .agg #[.int .i64 2, .int .i64 0, .int .i64 0], .int .i64 8] W fun e w' => e = .returned (.bool true) ∧ Below W.heap.size W w' := by
  have := not_calls 0 0 5 0 40 2 0 0 8 (some a) (some b) 2 2 lC tC W h.s.l (by decide) h.s.t
  rw [k_r8] at this
  simp only [decide_true] at this
  exact this
theorem WkK.c9 (h : WkK w a b bV g4 g5 gs g6 top g7 m1 m2 W) : Calls Try.prog 19 #[.agg vC, .slice (some a) 2 2, .slice (some b) 2 2, .agg #[.int .i64 1, .int .i64 2, .int .i64 1], .int .i64 8] W fun e w' => e = .returned (.bool true) ∧ Below W.heap.size W w' := by
  have := not_calls 0 0 5 0 40 1 2 1 8 (some a) (some b) 2 2 lC tC W h.s.l (by decide) h.s.t
  rw [k_r9] at this
  simp only [decide_true] at this
  exact this
theorem WkK.c10 (h : WkK w a b bV g4 g5 gs g6 top g7 m1 m2 W) : Calls Try.prog 20 #[.agg vC, .slice none 0 0, .slice (some b) 2 2, .agg #[.int .i64 1, .int .i64 0, .int .i64 0], .int .i64 24] W fun e w' => e = .returned (.bool true) ∧ Below W.heap.size W w' := by
  have := costs_calls 0 0 5 0 40 1 0 0 24 none (some b) 0 2 [] tC W nil_els (by decide) h.s.t
  rw [k_r10] at this
  simp only [decide_true] at this
  exact this
theorem WkK.e0 (h : WkK w a b bV g4 g5 gs g6 top g7 m1 m2 W) : Calls Try.prog 16 #[.agg vC, .slice (some a) 2 2, .slice (some b) 2 2, .int .i64 1, .int .i64 1, .int .i64 2] W fun e w' => e = .returned (.tuple #[.int .i64 12, .int .i64 0]) ∧ Below W.heap.size W w' := by
  have := detour_calls 0 0 5 0 40 1 1 2 (some a) (some b) 2 2 lC tC W h.s.l (by decide) h.s.t
  rw [k_d0] at this
  exact this
theorem WkK.e1 (h : WkK w a b bV g4 g5 gs g6 top g7 m1 m2 W) : Calls Try.prog 16 #[.agg vC, .slice (some a) 2 2, .slice (some b) 2 2, .int .i64 1, .int .i64 0, .int .i64 0] W fun e w' => e = .returned (.tuple #[.int .i64 14, .int .i64 0]) ∧ Below W.heap.size W w' := by
  have := detour_calls 0 0 5 0 40 1 0 0 (some a) (some b) 2 2 lC tC W h.s.l (by decide) h.s.t
  rw [k_d1] at this
  exact this
end
set_option maxHeartbeats 4000000 in
set_option maxRecDepth 100000 in
theorem works_calls (w : World) : Calls Try.prog 12 #[] w fun e w' => e = .returned (.bool true) ∧ Below w.heap.size w w' := by
  have hch := Lib.hid chapter_calls
  refine calls_of_all fun n => ?_
  refine callsIn_of_wp_marks Try.func12 rfl trivial ?_ rfl
  simp only [Try.ntmps12, List.size_toArray, List.length_nil, Nat.reduceSub, Array.replicate_succ, Array.replicate_zero, List.push_toArray, List.append_toArray, List.nil_append, List.cons_append]
  refine wpIn_wide.2 ?_
  go_upto_region 1 with fail
  refine wp_world' (fun wx => Blk wx w.heap.size #[.bool false] 4 ∧ Below w.heap.size w wx) ⟨Blk.new _ _ _, new_below _ _⟩ ?_
  rintro w1 ⟨hR, hb⟩
  go_wp2_with fail
  refine (hch.out _).mono ?_
  rintro e w2 ⟨⟨a, b, rfl, hl, ht⟩, hb2⟩
  replace hR := hR.mod ((Mod.refl (fun _ => False) _).after hb2) (fun h => h)
  replace hb := hb.trans (hb2.mono hb.size)
  clear hb2 hch
  have hR2 := Lib.hid (hR.alloc (.cells vC 28))
  have hl2 := Lib.hid (hl.below (new_below w2 (.cells vC 28)))
  have ht2 := Lib.hid (ht.below (new_below w2 (.cells vC 28)))
  have hb2 := Lib.hid (hb.alloc hb.size (.cells vC 28))
  have hV2 := Lib.hid (Blk.new w2 vC 28)
  have hlt2 := hR.lt
  clear hR hl ht hb
  go_upto_region 2 with (refine wpList_store_new rfl 28 _ _ rfl rfl rfl _ vC _ rfl rfl (by simp [vC, Value.oneCell']) (by kernel_rfl) ?_)
  refine wp_world' (fun wx => Blk wx w.heap.size #[.bool false] 4 ∧ Blk wx w2.heap.size vC 28 ∧ Els wx (some a) 2 (lC.map stV) ∧ Els wx (some b) 10 (tC.map rqV) ∧ Below w.heap.size w wx ∧ w.heap.size < w2.heap.size) ⟨hR2.out, hV2.out, hl2.out, ht2.out, hb2.out, hlt2⟩ ?_
  clear hR2 hl2 ht2 hb2 hV2 hlt2
  generalize w2.heap.size = bV
  rintro w3 ⟨hR3, hV3, hl3, ht3, hb3, hlt3⟩
  have ha3 : a.block < w3.heap.size := by
    have := World.block_lt_of_cell? _ _ (hl3.cells a rfl 0 _ 0 _ rfl rfl)
    rwa [addr_block] at this
  have hbb3 : b.block < w3.heap.size := by
    have := World.block_lt_of_cell? _ _ (ht3.cells b rfl 0 _ 0 _ rfl rfl)
    rwa [addr_block] at this
  have hbV3 := hV3.lt
  replace hR3 := Lib.hid hR3
  replace hV3 := Lib.hid hV3
  replace hl3 := Lib.hid hl3
  replace ht3 := Lib.hid ht3
  replace hb3 := Lib.hid hb3
  refine wp_region_rove (X := Nat × Nat) (0, 0) (fun x => [(19, .agg vC), (20, .agg vC), (4, .pointer (some ⟨x.1, 0, none⟩)), (5, .pointer (some ⟨x.2, 0, none⟩))])
    (fun x d W' => ClV vC w3 x (d 2) (d 3) (d 4) (d 5) W') (by kernel_rfl) (by kernel_rfl) (by kernel_rfl) (by kernel_rfl) (fun x => by kernel_rfl)
    ⟨(Mod.refl _ _).drew, (fun h => by cases h), (fun h => by cases h), (fun h => by cases h)⟩ ?_ ?_
  · intro aF hAF
    have E1 : ∀ x, (aF x).eval (.tmp 1) = .pointer (some ⟨bV, 0, none⟩) := by intro x; rw [hAF]; kernel_rfl
    have T19 : ∀ x, (aF x).tmps[19]? = some (.agg vC) := by intro x; rw [hAF]; kernel_rfl
    have E19 : ∀ x, (aF x).eval (.tmp 19) = .agg vC := by intro x; rw [hAF]; kernel_rfl
    have T20 : ∀ x, (aF x).tmps[20]? = some (.agg vC) := by intro x; rw [hAF]; kernel_rfl
    have E20 : ∀ x, (aF x).eval (.tmp 20) = .agg vC := by intro x; rw [hAF]; kernel_rfl
    have T4 : ∀ x, (aF x).tmps[4]? = some (.pointer (some ⟨x.1, 0, none⟩)) := by intro x; rw [hAF]; kernel_rfl
    have E4 : ∀ x, (aF x).eval (.tmp 4) = .pointer (some ⟨x.1, 0, none⟩) := by intro x; rw [hAF]; kernel_rfl
    have T5 : ∀ x, (aF x).tmps[5]? = some (.pointer (some ⟨x.2, 0, none⟩)) := by intro x; rw [hAF]; kernel_rfl
    have E5 : ∀ x, (aF x).eval (.tmp 5) = .pointer (some ⟨x.2, 0, none⟩) := by intro x; rw [hAF]; kernel_rfl
    replace hAF := Lib.hid hAF
    have hld := fun (wx : World) (h : Mod (fun _ => False) w3 wx) => run_load_row' (P := Try.prog) wx bV 28 vC 28 _ (hV3.out.mod h (fun h => h)) Try.underlying28 rfl (by kernel_rfl)
    refine ⟨?_, ?_, ?_, ?_, ?_, ?_, trivial⟩
    · exact opOk3_quiet _ (by intro x t hd _; cases hd; exact T19 x) (fun _ => rfl) fun x d w' hd hc => sv (run_load1 rfl (E1 x) (hld _ hc.m)) hc
    · exact opOk3_quiet _ (by intro x t hd _; cases hd; exact T20 x) (fun _ => rfl) fun x d w' hd hc => sv (run_load1 rfl (E1 x) (hld _ hc.m)) hc
    · exact opOk3_loud rfl fun x d w' hd hn hc => by
        have n2 : d 2 = false := hn 2 (by kernel_rfl)
        have n4 : d 4 = false := hn 4 (by kernel_rfl)
        rw [n2, n4] at hc
        refine sk_v (run_allocV rfl) ?_
        refine ⟨(w'.heap.size, x.2), (by rw [hAF.out]; exact agree_set 2 (4, .pointer (some ⟨x.1, 0, none⟩)) rfl (by kernel_rfl)), (by intro t hd _; cases hd; exact T4 _), ?_⟩
        have := hc.box0
        show ClV vC w3 _ true (d 3) (d 4) (d 5) _
        rw [n4]
        exact this
    · exact opOk3_loud rfl fun x d w' hd hn hc => by
        have n2 : d 3 = false := hn 3 (by kernel_rfl)
        have n4 : d 5 = false := hn 5 (by kernel_rfl)
        rw [n2, n4] at hc
        refine sk_v (run_allocV rfl) ?_
        refine ⟨(x.1, w'.heap.size), (by rw [hAF.out]; exact agree_set 3 (5, .pointer (some ⟨x.2, 0, none⟩)) rfl (by kernel_rfl)), (by intro t hd _; cases hd; exact T5 _), ?_⟩
        have := hc.box1
        show ClV vC w3 _ (d 2) true (d 4) (d 5) _
        rw [n4]
        exact this
    · exact opOk3_loud rfl fun x d w' hd hn hc => by
        have n2 : d 2 = true := hd 2 (by kernel_rfl)
        have n4 : d 4 = false := hn 4 (by kernel_rfl)
        rw [n2, n4] at hc
        refine sk_s (run_storeP (ty := 28) rfl (E4 x) (E19 x) (run_storeVar_row w' x.1 28 v0 vC 28 (hc.x0 rfl).1 rfl (by simp [vC, Value.oneCell']) (by kernel_rfl))) ⟨x, agree_same _ _, (by intro t hd _; cases hd), ?_⟩
        show ClV vC w3 _ (d 2) (d 3) true (d 5) _
        rw [n2]
        exact hc.put0
    · exact opOk3_loud rfl fun x d w' hd hn hc => by
        have n2 : d 3 = true := hd 3 (by kernel_rfl)
        have n4 : d 5 = false := hn 5 (by kernel_rfl)
        rw [n2, n4] at hc
        refine sk_s (run_storeP (ty := 28) rfl (E5 x) (E20 x) (run_storeVar_row w' x.2 28 v0 vC 28 (hc.x1 rfl).1 rfl (by simp [vC, Value.oneCell']) (by kernel_rfl))) ⟨x, agree_same _ _, (by intro t hd _; cases hd), ?_⟩
        show ClV vC w3 _ (d 2) (d 3) (d 4) true _
        rw [n2]
        exact hc.put1
  · intro x d w4 hd hc
    obtain ⟨g4, g5⟩ := x
    simp only [putAll, List.foldl_cons, List.foldl_nil, Act.put, List.setIfInBounds_toArray, List.set_cons_succ, List.set_cons_zero]
    rw [hd 2 (by decide), hd 3 (by decide), hd 4 (by decide), hd 5 (by decide)] at hc
    have hR4 := hR3.out.mod hc.m (fun h => h)
    have hV4 := hV3.out.mod hc.m (fun h => h)
    have hl4 := hl3.out.mod hc.m (fun _ _ h => h)
    have ht4 := ht3.out.mod hc.m (fun _ _ h => h)
    have hb4 := hb3.out.trans (hc.m.below hb3.out.size (fun _ h => h.elim))
    obtain ⟨hX4, hg4⟩ : Blk w4 g4 vC 28 ∧ w3.heap.size ≤ g4 := hc.x0 rfl
    obtain ⟨hX5, hg5⟩ : Blk w4 g5 vC 28 ∧ w3.heap.size ≤ g5 := hc.x1 rfl
    have hne : g4 ≠ g5 := hc.ne rfl rfl
    have hsz := hc.m.size
    have hlt4 := hX4.lt
    have hlt5 := hX5.lt
    clear hc hd hR3 hV3 hl3 ht3 hb3
    have k4 := hX4.cell (i := 2) rfl
    have f4 := hX4.froz 2
    have hM4 : Mod (fun k => k = g4) w4 (w4.setCell ⟨g4, 2, none⟩ (.int .i64 4)) := (Mod.refl (fun k => k = g4) w4).setCell (p := ⟨g4, 2, none⟩) (fun _ => rfl) (.int .i64 4)
    have P1 := Lib.hid (show WkP w a b bV g4 g5 v4 vC (w4.setCell ⟨g4, 2, none⟩ (.int .i64 4)) from
      ⟨hR4.mod hM4 (by omega), hV4.mod hM4 (by omega), hX4.set 2 (.int .i64 4), hX5.mod hM4 (by omega), hl4.mod hM4 (fun p e h => by cases e; omega), ht4.mod hM4 (fun p e h => by cases e; omega), hb4.trans (hM4.below hb4.size (fun k h => by omega))⟩)
    clear hM4 hR4 hV4 hX4 hX5 hl4 ht4 hb4
    go_upto_region 4 with fail
    refine wp_world' (WkP w a b bV g4 g5 v4 vC) P1.out ?_
    clear P1 k4 f4
    rintro w5 ⟨hR4, hV4, hX4, hX5, hl4, ht4, hb4⟩
    have k4 := hX5.cell (i := 4) rfl
    have f4 := hX5.froz 4
    have hM4 : Mod (fun k => k = g5) w5 (w5.setCell ⟨g5, 4, none⟩ (.int .i64 33)) := (Mod.refl (fun k => k = g5) w5).setCell (p := ⟨g5, 4, none⟩) (fun _ => rfl) (.int .i64 33)
    have P1 := Lib.hid (show WkP w a b bV g4 g5 v4 v5 (w5.setCell ⟨g5, 4, none⟩ (.int .i64 33)) from
      ⟨hR4.mod hM4 (by omega), hV4.mod hM4 (by omega), hX4.mod hM4 (by omega), hX5.set 4 (.int .i64 33), hl4.mod hM4 (fun p e h => by cases e; omega), ht4.mod hM4 (fun p e h => by cases e; omega), hb4.trans (hM4.below hb4.size (fun k h => by omega))⟩)
    clear hM4 hR4 hV4 hX4 hX5 hl4 ht4 hb4
    go_upto_region 5 with fail
    refine wp_world' (WkP w a b bV g4 g5 v4 v5) P1.out ?_
    clear P1 k4 f4
    rintro w6 ⟨hR4, hV4, hX4, hX5, hl4, ht4, hb4⟩
    have s4 := hX4.lt
    have s5 := hX5.lt
    have hA : Below w6.heap.size w6 ((w6.alloc (.cells (one3.map stV).flatten.toArray 41)).alloc (.cells #[.slice (some ⟨w6.heap.size, 0, none⟩) 3 3] 38)) := ((new_below _ _).alloc (by simp) _)
    have hm := (Mod.refl (fun _ => False) w6).after hA
    have P2 := Lib.hid (show WkS w a b bV g4 g5 w6.heap.size (w6.heap.size + 1) (w6.heap.size + 2) ((w6.alloc (.cells (one3.map stV).flatten.toArray 41)).alloc (.cells #[.slice (some ⟨w6.heap.size, 0, none⟩) 3 3] 38)) from
      ⟨hR4.mod hm (fun h => h), hV4.mod hm (fun h => h), hX4.mod hm (fun h => h), hX5.mod hm (fun h => h), els_blk ((Blk.new w6 _ _).alloc _) o3_len (by decide), Blk.new' _ _ _ _, hl4.mod hm (fun _ _ h => h), ht4.mod hm (fun _ _ h => h), hb4.trans (hA.mono hb4.size), by simp; omega⟩)
    clear hA hm hR4 hV4 hX4 hX5 hl4 ht4 hb4
    go_upto_region 6 with (refine wpList_bsd rfl (rsl_o3 _) rfl (by kernel_rfl) ?_)
    refine wp_world' (WkS w a b bV g4 g5 w6.heap.size (w6.heap.size + 1) (w6.heap.size + 2)) P2.out ?_
    clear P2
    generalize w6.heap.size + 2 = top
    generalize w6.heap.size + 1 = g6
    generalize w6.heap.size = gs
    clear s4 s5
    rintro w7 hW
    go_wp2_with fail
    refine (places11_calls _ _).mono ?_
    rintro e w8 ⟨rfl, rfl⟩
    go_wp2_with (refine wpList_v rfl (.bool false) (run_nilF rfl rfl rfl) ?_)
    refine (places11_calls _ _).mono ?_
    rintro e w9 ⟨rfl, rfl⟩
    have hW9 := hW.mod (((Mod.refl (fun _ => False) w7).alloc (.cells #[.int .i64 1] 3)).alloc (.cells #[.int .i64 (-1)] 3)) (fun _ h => h.elim)
    clear hW
    go_upto_region 8 with (refine wpList_v rfl (.bool false) (run_nilF rfl rfl rfl) ?_)
    refine wp_world' (WkS w a b bV g4 g5 gs g6 top) hW9 ?_
    clear hW9
    rintro w8 hW
    go_upto_region 9 with fail
    have hb8 := hW.low.size
    have hK := Lib.hid (show WkS w a b bV g4 g5 gs g6 top (w8.alloc (.cells #[.int .i64 0] 3)) ∧ Blk (w8.alloc (.cells #[.int .i64 0] 3)) w8.heap.size #[.int .i64 0] 3 ∧ (w8.alloc (.cells #[.int .i64 0] 3)).heap.size = w8.heap.size + 1 ∧ top ≤ w8.heap.size ∧ w.heap.size ≤ w8.heap.size from
      ⟨hW.mod ((Mod.refl (fun _ => False) w8).alloc _) (fun _ h => h.elim), Blk.new _ _ _, by simp, hW.top.2.2.2.2.2.2.2.2, hb8⟩)
    clear hW hb8
    refine wp_world' (fun wx => WkS w a b bV g4 g5 gs g6 top wx ∧ Blk wx w8.heap.size #[.int .i64 0] 3 ∧ wx.heap.size = w8.heap.size + 1 ∧ top ≤ w8.heap.size ∧ w.heap.size ≤ w8.heap.size) hK.out ?_
    clear hK
    generalize w8.heap.size = g7
    rintro w9 ⟨hW, h7, hz9, ht7, hw7⟩
    have hz9' := Lib.hid hz9
    clear hz9
    go_wp2_with fail
    refine (places11_calls _ _).mono ?_
    rintro e w10 ⟨rfl, rfl⟩
    go_wp2_with fail
    obtain ⟨W0, hW0⟩ : ∃ W0, w9.alloc (.cells #[.int .i64 1] 3) = W0 := ⟨_, rfl⟩
    have hz : W0.heap.size = g7 + 2 := by rw [← hW0]; simp; have := hz9'.out; omega
    have hWA : WkS w a b bV g4 g5 gs g6 top W0 := by rw [← hW0]; exact hW.mod ((Mod.refl (fun _ => False) w9).alloc _) (fun _ h => h.elim)
    have h7A : Blk W0 g7 #[.int .i64 0] 3 := by rw [← hW0]; exact h7.alloc _
    have k1 : W0.cell? ⟨g7 + 1, 0, none⟩ = some (.int .i64 1) := by rw [← hW0, ← hz9'.out]; exact (cellN w9 _ _).1
    rw [hW0, hz9'.out]
    clear hW0 hW h7 hz9'
    refine (wpIn_wide (n := n)).1 ?_
    refine wp_rangeIter (gf := 35) (lb := #[.pointer (some ⟨g7 + 1, 0, none⟩)]) rfl (enters_of Try.func35 (by kernel_rfl) rfl)
      (encs := fun x : Int × Int => #[.int .i64 x.1, .int .i64 x.2]) (fun _ => rfl) (S := fun _ => False) (Dt := fun k => k < w.heap.size ∨ k = g7 + 1) (xs := prs 1)
      (fun o o' => places11_iter 1 w _ (g7 + 1) ((hWA.low.alloc hWA.low.size _).alloc (by have := hWA.low.size; simp; omega) _) (cellA _ (cellA _ k1)))
      ⟨fun h => h, fun h => h⟩ (by omega)
      (fun pre W => WkS w a b bV g4 g5 gs g6 top W ∧ Blk W g7 #[.int .i64 pre.length] 3)
      (fun _ _ _ => False)
      ?hI ?hIx ?h0 ?hround ?hdone ?hstop
    case h0 => exact ⟨hWA, h7A⟩
    case hI => exact fun pre A B h hm => ⟨h.1.mod hm (fun k hk => by rcases hk with h | h; exact h.elim; omega), h.2.mod hm (fun hk => by rcases hk with h | h; exact h.elim; omega)⟩
    case hIx => exact fun c pre A B h hm => h
    case hstop => exact fun c pre x rest W hx h => h.elim
    case hround =>
      rintro pre ⟨x1, x2⟩ rest W hx hSW hlt ⟨hS, hB⟩
      rw [prs_one] at hx
      have hk : pre.length < one3.length := by have := congrArg List.length hx; simp at this; omega
      have hk3 : pre.length < 3 := hk
      obtain ⟨_, hgx⟩ := List.getElem?_eq_some_iff.1 (show one3[pre.length]? = some (x1, x2) by rw [hx]; simp)
      gi_wp2
      refine ⟨Mod.refl _ _, fun W2 hm => ?_⟩
      replace hS := hS.mod hm (fun k s => by omega)
      replace hB := hB.mod hm (by omega)
      have hxk : (one3.map stV)[pre.length]? = some (stV (x1, x2)) := by rw [List.getElem?_map, List.getElem?_eq_getElem hk, hgx]; rfl
      have kx1 := hS.o.cells ⟨gs, 0, none⟩ rfl pre.length (stV (x1, x2)) 0 (.int .i64 x1) hxk rfl
      have kx2 := hS.o.cells ⟨gs, 0, none⟩ rfl pre.length (stV (x1, x2)) 1 (.int .i64 x2) hxk rfl
      rw [add0] at kx1 kx2
      rw [Nat.add_zero] at kx1
      have k7 := hB.cell (i := 0) rfl
      have f7 := hB.froz 0
      have k6 := hS.x6.cell (i := 0) rfl
      have hne : ¬ (pre.length : Int) = 3 := by omega
      have hl3 : (pre.length : Int) < 3 := by omega
      have s1 : IntKind.i64.wrap ((pre.length : Int) + 1) = (pre.length : Int) + 1 := IntWalk.i64_in _ (by omega)
      have hs2 := hm.size
      have hSA := Lib.hid (hS.mod ((Mod.refl (fun k => k = g7) W2).setCell (p := ⟨g7, 0, none⟩) (fun _ => rfl) (.int .i64 ((pre.length : Int) + 1))) (fun k h => by have : k = g7 := h; omega))
      have hBA := Lib.hid (hB.set 0 (.int .i64 ((pre.length : Int) + 1)))
      have hMA := Lib.hid ((Mod.refl (fun k => ¬ False ∧ ¬ (k < w.heap.size ∨ k = g7 + 1) ∧ k ≠ W0.heap.size ∧ k ≠ W0.heap.size + 1) W2).setCell (p := ⟨g7, 0, none⟩) (fun _ => ⟨fun h => h, by show ¬ (g7 < _ ∨ g7 = _); omega, by show g7 ≠ _; omega, by show g7 ≠ _; omega⟩) (.int .i64 ((pre.length : Int) + 1)))
      have hne2 : ((pre.length : Int) == 3) = false := beq_eq_false_iff_ne.2 hne
      clear hm hS hB hx hgx hk hSW hxk
      gi_wp2_with (refine wpListIn_v (fun _ => trivial) rfl rfl (.bool false) (run_neqS rfl rfl rfl) ?_)
      exact ⟨hMA.out.mono (fun k _ h => h), hSA.out, by simpa using hBA.out⟩
    case hdone =>
      rintro W ⟨hS, hB⟩ hD hlt
      replace hB : Blk W g7 #[.int .i64 3] 3 := by rw [prs_one] at hB; exact hB
      go_wp2_with fail
      refine (places11_calls _ _).mono ?_
      rintro e w10 ⟨rfl, rfl⟩
      go_wp2_with fail
      have hA := (Mod.refl (fun _ => False) W).alloc (.cells #[.int .i64 (-1)] 3)
      have hSA := hS.mod hA (fun _ h => h.elim)
      have hBA := hB.mod hA (fun h => h)
      have hDA : (W.alloc (.cells #[.int .i64 (-1)] 3)).heap[W0.heap.size]? = some (.deferred (some [])) := (hA.block _ (by omega) (fun h => h)).trans hD
      have k2 := (cellN W (.int .i64 (-1)) 3).1
      have hz2 : (W.alloc (.cells #[.int .i64 (-1)] 3)).heap.size = W.heap.size + 1 := by simp
      clear hA hS hB hD k1 hWA h7A
      generalize hW1 : W.alloc (.cells #[.int .i64 (-1)] 3) = W1 at *
      generalize hbI : W.heap.size = bI at *
      clear hW1 hbI
      refine (wpIn_wide (n := n)).1 ?_
      refine wp_rangeIter (gf := 35) (lb := #[.pointer (some ⟨bI, 0, none⟩)]) rfl (enters_of Try.func35 (by kernel_rfl) rfl)
        (encs := fun x : Int × Int => #[.int .i64 x.1, .int .i64 x.2]) (fun _ => rfl) (S := fun _ => False) (Dt := fun k => k < w.heap.size ∨ k = bI) (xs := prs (-1))
        (fun o o' => places11_iter (-1) w _ bI ((hSA.low.alloc hSA.low.size _).alloc (by have := hSA.low.size; simp; omega) _) (cellA _ (cellA _ k2)))
        ⟨fun h => h, fun h => h⟩ (by have := hSA.low.size; omega)
        (fun pre W => WkS w a b bV g4 g5 gs g6 top W ∧ Blk W g7 #[.int .i64 3] 3 ∧ W.heap[W0.heap.size]? = some (.deferred (some [])))
        (fun _ _ _ => False)
        ?hI ?hIx ?h0 ?hround ?hdone ?hstop
      case h0 => exact ⟨hSA, hBA, hDA⟩
      case hI => exact fun pre A B h hm => ⟨h.1.mod hm (fun k hk => by rcases hk with h | h; exact h.elim; omega), h.2.1.mod hm (fun hk => by rcases hk with h | h; exact h.elim; omega), (hm.block _ (Array.getElem?_eq_some_iff.1 h.2.2).1 (fun hk => by rcases hk with h | h; exact h.elim; omega)).trans h.2.2⟩
      case hIx => exact fun c pre A B h hm => h
      case hstop => exact fun c pre x rest W hx h => h.elim
      case hround =>
        intro pre x rest W hx
        rw [prs_neg] at hx
        simp at hx
      case hdone =>
        rintro W2 ⟨hS, hB, hD1⟩ hD2 hlt2
        rw [hz] at hD1
        rw [hz2] at hD2
        have hK : Hid (WkK w a b bV g4 g5 gs g6 top g7 (g7 + 2) (bI + 1) W2) := Lib.hid ⟨hS, hB, hD1, hD2⟩
        have hwt := Lib.hid hS.top.1
        clear hS hB hD1 hD2 hSA hBA hDA k2
        go_wp2_with (first | (refine wpList_load_v rfl 28 _ rfl ⟨bV, 0, none⟩ rfl _ hK.out.lv ?_) | (refine wpList_load_v rfl 28 _ rfl ⟨g4, 0, none⟩ rfl _ hK.out.l4 ?_) | (refine wpList_load_v rfl 28 _ rfl ⟨g5, 0, none⟩ rfl _ hK.out.l5 ?_))
        refine hK.out.e0.mono ?_
        rintro e x ⟨rfl, hb'⟩
        replace hK := Lib.hid (hK.out.after hb')
        clear hb'
        go_wp2_with (first | (refine wpList_load_v rfl 28 _ rfl ⟨bV, 0, none⟩ rfl _ hK.out.lv ?_) | (refine wpList_load_v rfl 28 _ rfl ⟨g4, 0, none⟩ rfl _ hK.out.l4 ?_) | (refine wpList_load_v rfl 28 _ rfl ⟨g5, 0, none⟩ rfl _ hK.out.l5 ?_))
        refine hK.out.e1.mono ?_
        rintro e x ⟨rfl, hb'⟩
        replace hK := Lib.hid (hK.out.after hb')
        clear hb'
        have k7 := hK.out.n.cell (i := 0) rfl
        go_upto_region 21 with fail
        simp only [List.append_eq, List.cons_append, List.nil_append]
        go_wp2_with (first | (refine wpList_load_v rfl 28 _ rfl ⟨bV, 0, none⟩ rfl _ hK.out.lv ?_) | (refine wpList_load_v rfl 28 _ rfl ⟨g4, 0, none⟩ rfl _ hK.out.l4 ?_) | (refine wpList_load_v rfl 28 _ rfl ⟨g5, 0, none⟩ rfl _ hK.out.l5 ?_))
        refine hK.out.c0.mono ?_
        rintro e x ⟨rfl, hb'⟩
        replace hK := Lib.hid (hK.out.after hb')
        clear hb'
        clear k7
        go_wp2_with (first | (refine wpList_load_v rfl 28 _ rfl ⟨bV, 0, none⟩ rfl _ hK.out.lv ?_) | (refine wpList_load_v rfl 28 _ rfl ⟨g4, 0, none⟩ rfl _ hK.out.l4 ?_) | (refine wpList_load_v rfl 28 _ rfl ⟨g5, 0, none⟩ rfl _ hK.out.l5 ?_))
        refine hK.out.c1.mono ?_
        rintro e x ⟨rfl, hb'⟩
        replace hK := Lib.hid (hK.out.after hb')
        clear hb'
        go_wp2_with (first | (refine wpList_load_v rfl 28 _ rfl ⟨bV, 0, none⟩ rfl _ hK.out.lv ?_) | (refine wpList_load_v rfl 28 _ rfl ⟨g4, 0, none⟩ rfl _ hK.out.l4 ?_) | (refine wpList_load_v rfl 28 _ rfl ⟨g5, 0, none⟩ rfl _ hK.out.l5 ?_))
        refine hK.out.c2.mono ?_
        rintro e x ⟨rfl, hb'⟩
        replace hK := Lib.hid (hK.out.after hb')
        clear hb'
        go_wp2_with (first | (refine wpList_load_v rfl 28 _ rfl ⟨bV, 0, none⟩ rfl _ hK.out.lv ?_) | (refine wpList_load_v rfl 28 _ rfl ⟨g4, 0, none⟩ rfl _ hK.out.l4 ?_) | (refine wpList_load_v rfl 28 _ rfl ⟨g5, 0, none⟩ rfl _ hK.out.l5 ?_))
        refine hK.out.c3.mono ?_
        rintro e x ⟨rfl, hb'⟩
        replace hK := Lib.hid (hK.out.after hb')
        clear hb'
        go_wp2_with (first | (refine wpList_load_v rfl 28 _ rfl ⟨bV, 0, none⟩ rfl _ hK.out.lv ?_) | (refine wpList_load_v rfl 28 _ rfl ⟨g4, 0, none⟩ rfl _ hK.out.l4 ?_) | (refine wpList_load_v rfl 28 _ rfl ⟨g5, 0, none⟩ rfl _ hK.out.l5 ?_))
        refine hK.out.c4.mono ?_
        rintro e x ⟨rfl, hb'⟩
        replace hK := Lib.hid (hK.out.after hb')
        clear hb'
        go_wp2_with (first | (refine wpList_load_v rfl 28 _ rfl ⟨bV, 0, none⟩ rfl _ hK.out.lv ?_) | (refine wpList_load_v rfl 28 _ rfl ⟨g4, 0, none⟩ rfl _ hK.out.l4 ?_) | (refine wpList_load_v rfl 28 _ rfl ⟨g5, 0, none⟩ rfl _ hK.out.l5 ?_))
        refine hK.out.c5.mono ?_
        rintro e x ⟨rfl, hb'⟩
        replace hK := Lib.hid (hK.out.after hb')
        clear hb'
        go_wp2_with (first | (refine wpList_load_v rfl 28 _ rfl ⟨bV, 0, none⟩ rfl _ hK.out.lv ?_) | (refine wpList_load_v rfl 28 _ rfl ⟨g4, 0, none⟩ rfl _ hK.out.l4 ?_) | (refine wpList_load_v rfl 28 _ rfl ⟨g5, 0, none⟩ rfl _ hK.out.l5 ?_))
        refine hK.out.c6.mono ?_
        rintro e x ⟨rfl, hb'⟩
        replace hK := Lib.hid (hK.out.after hb')
        clear hb'
        go_wp2_with (first | (refine wpList_load_v rfl 28 _ rfl ⟨bV, 0, none⟩ rfl _ hK.out.lv ?_) | (refine wpList_load_v rfl 28 _ rfl ⟨g4, 0, none⟩ rfl _ hK.out.l4 ?_) | (refine wpList_load_v rfl 28 _ rfl ⟨g5, 0, none⟩ rfl _ hK.out.l5 ?_))
        refine hK.out.c7.mono ?_
        rintro e x ⟨rfl, hb'⟩
        replace hK := Lib.hid (hK.out.after hb')
        clear hb'
        go_wp2_with (first | (refine wpList_load_v rfl 28 _ rfl ⟨bV, 0, none⟩ rfl _ hK.out.lv ?_) | (refine wpList_load_v rfl 28 _ rfl ⟨g4, 0, none⟩ rfl _ hK.out.l4 ?_) | (refine wpList_load_v rfl 28 _ rfl ⟨g5, 0, none⟩ rfl _ hK.out.l5 ?_))
        refine hK.out.c8.mono ?_
        rintro e x ⟨rfl, hb'⟩
        replace hK := Lib.hid (hK.out.after hb')
        clear hb'
        go_wp2_with (first | (refine wpList_load_v rfl 28 _ rfl ⟨bV, 0, none⟩ rfl _ hK.out.lv ?_) | (refine wpList_load_v rfl 28 _ rfl ⟨g4, 0, none⟩ rfl _ hK.out.l4 ?_) | (refine wpList_load_v rfl 28 _ rfl ⟨g5, 0, none⟩ rfl _ hK.out.l5 ?_))
        refine hK.out.c9.mono ?_
        rintro e x ⟨rfl, hb'⟩
        replace hK := Lib.hid (hK.out.after hb')
        clear hb'
        go_wp2_with (first | (refine wpList_load_v rfl 28 _ rfl ⟨bV, 0, none⟩ rfl _ hK.out.lv ?_) | (refine wpList_load_v rfl 28 _ rfl ⟨g4, 0, none⟩ rfl _ hK.out.l4 ?_) | (refine wpList_load_v rfl 28 _ rfl ⟨g5, 0, none⟩ rfl _ hK.out.l5 ?_))
        refine hK.out.c10.mono ?_
        rintro e x ⟨rfl, hb'⟩
        replace hK := Lib.hid (hK.out.after hb')
        clear hb'
        have kR := hK.out.s.r.cell (i := 0) rfl
        have fR := hK.out.s.r.froz 0
        have hRR := Lib.hid ((hK.out.s.r.set 0 (.bool true)).cell (i := 0) (v := .bool true) rfl)
        have hbb := Lib.hid (hK.out.s.low.setCell (p := ⟨w.heap.size, 0, none⟩) (Nat.le_refl _) (.bool true))
        have hg7 : w.heap.size < g7 := by have := hwt.out; omega
        have hgI : w.heap.size < bI := by omega
        have hD1 := Lib.hid (setCell_heap (p := ⟨w.heap.size, 0, none⟩) (v := .bool true) hK.out.d1 (show g7 + 2 ≠ w.heap.size by omega))
        have hD2 := Lib.hid (setCell_heap (p := ⟨w.heap.size, 0, none⟩) (v := .bool true) hK.out.d2 (show bI + 1 ≠ w.heap.size by omega))
        have hne : g7 + 2 ≠ bI + 1 := by omega
        clear hK
        go_wp2_with fail
        refine ⟨by simp, .inl ⟨_, _, rfl, run_takeDeferred hD2.out, ?_⟩⟩
        refine ⟨by simp, .inl ⟨_, _, rfl, run_takeDeferred ((World.putObj_heap_other hne).trans hD1.out), ?_⟩⟩
        exact ⟨_, res_cell1 Try.results12 rfl (run_cellB ((putObj_cell (by show w.heap.size ≠ _; omega)).trans ((putObj_cell (by show w.heap.size ≠ _; omega)).trans hRR.out))), rfl, below_putObj (below_putObj hbb.out (by omega) _) (by omega) _⟩
end Go.Proofs.Ytcdpiemkbefcoaa
