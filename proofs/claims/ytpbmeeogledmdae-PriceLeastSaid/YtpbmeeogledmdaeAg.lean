/-
  Layer 11, the laws': chapter, costs, not.
  Two boxes of one struct ('a, b := v, v'): the region's laws. Rows of structs over worlds that are otherwise elsewhere.
-/
import Derived.Test.YtpbmeeogledmdaeDd
import Derived.Test.YtpbmeeogledmdaeTell
import Derived.Test.YtpbmeeogledmdaePl
namespace Go.Proofs.Ytpbmeeogledmdae
open Go.RowKit

theorem els_blk {w : World} {g n : Nat} {R : List (List Value)} {t : TypeId} (h : Blk w g R.flatten.toArray t) (hl : ∀ x ∈ R, x.length = n) (hb : R.length ≤ 140737488351232) : Els w (some ⟨g, 0, none⟩) n R :=
  ⟨fun e => (by cases e), hl, hb, fun a ha k x j v hk hj => by
    cases ha
    exact row_cells h _ _ (flat_at R k j x v hl hk hj)⟩
theorem results_cell_tmp_tmp {P : Program} {fn : Func} {p q r : Tmp} {ty : TypeId} (h : fn.results = #[.cell p ty, .tmp q, .tmp r]) (tmps : Array Value) (w : World) (g : Nat) (t : TypeId) (cs : Array Value) (fr : Nat × Nat) (d : TypeDesc)
    (hp : tmps.getD p undef = .pointer (some ⟨g, 0, none⟩)) (hg : w.heap[g]? = some (.cells cs t fr))
    (hu : P.underlying ty = some d) (hd : (match d with | .struct _ | .array _ _ => true | _ => false) = true) (hi : (P.info? ty).map (·.size) = some cs.size) :
    (results fn tmps).run P w = .ok (.tuple #[.agg cs, tmps.getD q undef, tmps.getD r undef]) w := by
  have hp' : tmps[p]?.getD undef = .pointer (some ⟨g, 0, none⟩) := by simpa using hp
  simp [results, h, hp', asAddr, run_loadVar_row w g t ty cs fr d hg hu hd hi]
/-- a request by its ten numbers -/
def rqOf (L : List Int) : Rq := fun i => L.getD i 0
def lC : List (Int × Int) := [(0, 0), (0, 1)]
def tC : List Rq := [rqOf [5, 0, 9, 0, 0, 20, 0, 30, 3, 1], rqOf [5, 3, 9, 3, 0, 40, 0, 40, 2, 0]]
def vC : Array Value := #[.int .i64 0, .int .i64 0, .int .i64 5, .int .i64 0, .int .i64 40]
theorem rsl_tC (w : World) : (Instr.buildSlice 30 2 #[(0, .agg (rqV (rqOf [5, 0, 9, 0, 0, 20, 0, 30, 3, 1])).toArray), (1, .agg (rqV (rqOf [5, 3, 9, 3, 0, 40, 0, 40, 2, 0])).toArray)]).run Try.prog w = .ok (.slice (some ⟨w.heap.size, 0, none⟩) 2 2) (w.alloc (.cells (tC.map rqV).flatten.toArray 61)) := by kernel_rfl
theorem rsl_lC (w : World) : (Instr.buildSlice 48 2 #[(0, .agg #[.int .i64 0, .int .i64 0]), (1, .agg #[.int .i64 0, .int .i64 1])]).run Try.prog w = .ok (.slice (some ⟨w.heap.size, 0, none⟩) 2 2) (w.alloc (.cells (lC.map stV).flatten.toArray 81)) := by kernel_rfl




theorem k_r0 : riseP 0 0 5 0 40 lC tC 1 1 1 = (6, 0) := by kernel_rfl
theorem k_r1 : riseP 0 0 5 0 40 lC tC 1 1 2 = (12, 0) := by kernel_rfl
theorem k_r2 : riseP 0 0 5 0 40 lC tC 1 2 2 = (14, 0) := by kernel_rfl
theorem k_r3 : riseP 0 0 5 0 40 lC tC 1 0 0 = (14, 0) := by kernel_rfl
theorem k_r4 : riseP 0 0 4 0 40 lC tC 1 1 1 = (0, 10) := by kernel_rfl
theorem k_r5 : riseP 0 0 4 0 40 lC tC 1 2 2 = (14, 0) := by kernel_rfl
theorem k_r6 : riseP 0 0 5 0 33 lC tC 1 2 2 = (0, 9) := by kernel_rfl
theorem k_r7 : riseP 0 0 5 0 40 lC tC 0 0 0 = (0, 8) := by kernel_rfl
theorem k_r8 : riseP 0 0 5 0 40 lC tC 2 0 0 = (0, 8) := by kernel_rfl
theorem k_r9 : riseP 0 0 5 0 40 lC tC 1 2 1 = (0, 8) := by kernel_rfl
theorem k_r10 : riseP 0 0 5 0 40 [] tC 1 0 0 = (24, 0) := by kernel_rfl
theorem k_d0 : detP 0 0 5 0 40 lC tC 1 1 2 = (12, 0) := by kernel_rfl
theorem k_d1 : detP 0 0 5 0 40 lC tC 1 0 0 = (14, 0) := by kernel_rfl
end Go.Proofs.Ytpbmeeogledmdae
namespace Go.Proofs.Ytpbmeeogledmdae
open Go.RowKit

section
variable {ops : Array Oper}
theorem putAll_congr (ps : List (Tmp × Value)) (t : Tmp) : ∀ (a b : Act), a.tmps.size = b.tmps.size → a.tmps[t]? = b.tmps[t]? → (putAll ps a).tmps[t]? = (putAll ps b).tmps[t]? := by
  induction ps with
  | nil => intro a b _ h; exact h
  | cons y r ih =>
    intro a b hz h
    refine ih (a.put (some y.1) y.2) (b.put (some y.1) y.2) (by simp [Act.put, hz]) ?_
    simp only [Act.put, Array.getElem?_setIfInBounds, hz, h]
/-- two rows of slots that are unlike in one slot alone -/
theorem agree_set (k : Nat) (y : Tmp × Value) {L : List Nat} {ps qs : List (Tmp × Value)} {a : Act} (h : ps = qs.set k y) (hd : ((qs.map (·.1))[k]? == some y.1 && L.any fun c => dstOf ops c == some y.1) = true) : Agree ops L (putAll ps a) (putAll qs a) := by
  subst h
  rw [Bool.and_eq_true, beq_iff_eq, List.any_eq_true] at hd
  obtain ⟨hk, c, hc, hcd⟩ := hd
  intro t ht
  have hty : y.1 ≠ t := fun e => ht c hc (by rw [← e]; simpa using hcd)
  clear ht hc hcd
  induction qs generalizing k a with
  | nil => rfl
  | cons z r ih =>
    cases k with
    | zero =>
      simp only [List.map_cons, List.getElem?_cons_zero, Option.some.injEq] at hk
      show (putAll r (a.put (some y.1) y.2)).tmps[t]? = (putAll r (a.put (some z.1) z.2)).tmps[t]?
      refine putAll_congr r t _ _ (by simp [Act.put]) ?_
      simp only [Act.put, Array.getElem?_setIfInBounds_ne hty]
      rw [Array.getElem?_setIfInBounds_ne (by rw [hk]; exact hty)]
    | succ k =>
      simp only [List.map_cons, List.getElem?_cons_succ] at hk
      exact ih k hk
end
theorem sk_s {R : Value → World → Prop} {P : Program} {r : Result Next} {w : World} (h : r = .ok .skip w) (hC : R undef w) : upon2 P R r := by rw [h]; exact hC
theorem sk_v {R : Value → World → Prop} {P : Program} {r : Result Next} {v : Value} {w : World} (h : r = .ok (.value v) w) (hC : R v w) : upon2 P R r := by rw [h]; exact hC
theorem addr_block (a : Addr) (n : Nat) : (a.add n).block = a.block := by
  unfold Addr.add
  split <;> rfl
theorem Els.mod {w w' : World} {p : Option Addr} {n : Nat} {R : List (List Value)} (h : Els w p n R) {S : Nat → Prop} (hm : Mod S w w') (hs : ∀ a, p = some a → ¬ S a.block) : Els w' p n R :=
  ⟨h.nil, h.len, h.big, fun a ha k x j v hk hj => hm.cell_of (by rw [addr_block]; exact hs a ha) (h.cells a ha k x j v hk hj)⟩
theorem mod_row (w : World) (g : Nat) (R : Array Value) : Mod (· = g) w (w.setRow g R) := ⟨rfl, rfl, rfl, by simp [World.setRow], fun k _ hk => setRow_other w g k R hk⟩
/-- a vehicle of zeros -/
def v0 : Array Value := #[.int .i64 0, .int .i64 0, .int .i64 0, .int .i64 0, .int .i64 0]
theorem run_allocV {ρ : Operand → Value} {o : Oper} {w : World} (ho : o.op = .alloc 47) : (execOp ρ o).run Try.prog w = .ok (.value (.pointer (some ⟨w.heap.size, 0, none⟩))) (w.alloc (.cells v0 47)) := by
  unfold execOp
  simp only [ho]
  kernel_rfl
/-- two boxes, made and filled in some order -/
structure ClV (V : Array Value) (w : World) (x : Nat × Nat) (a0 a1 s0 s1 : Bool) (W : World) : Prop where
  m : Mod (fun _ => False) w W
  x0 : a0 = true → Blk W x.1 (bif s0 then V else v0) 47 ∧ w.heap.size ≤ x.1
  x1 : a1 = true → Blk W x.2 (bif s1 then V else v0) 47 ∧ w.heap.size ≤ x.2
  ne : a0 = true → a1 = true → x.1 ≠ x.2
section
variable {V : Array Value} {w W : World} {x : Nat × Nat} {a0 a1 s0 s1 : Bool}
theorem ClV.box0 (h : ClV V w x false a1 false s1 W) : ClV V w (W.heap.size, x.2) true a1 false s1 (W.alloc (.cells v0 47)) :=
  ⟨h.m.alloc _, fun _ => ⟨Blk.new W _ _, h.m.size⟩, fun e => ⟨(h.x1 e).1.alloc _, (h.x1 e).2⟩, fun _ e => by have := (h.x1 e).1.lt; show W.heap.size ≠ x.2; omega⟩
theorem ClV.box1 (h : ClV V w x a0 false s0 false W) : ClV V w (x.1, W.heap.size) a0 true s0 false (W.alloc (.cells v0 47)) :=
  ⟨h.m.alloc _, fun e => ⟨(h.x0 e).1.alloc _, (h.x0 e).2⟩, fun _ => ⟨Blk.new W _ _, h.m.size⟩, fun e _ => by have := (h.x0 e).1.lt; show x.1 ≠ W.heap.size; omega⟩
theorem ClV.put0 (h : ClV V w x true a1 false s1 W) : ClV V w x true a1 true s1 (W.setRow x.1 V) :=
  have hx := h.x0 rfl
  have hm := mod_row W x.1 V
  ⟨⟨h.m.os, h.m.tape, h.m.output, by simpa [World.setRow] using h.m.size, fun k hk hs => (hm.block k (Nat.lt_of_lt_of_le hk h.m.size) (by show ¬ _ = _; omega)).trans (h.m.block k hk hs)⟩,
    fun _ => ⟨setRow_heap W x.1 v0 V 47 (0, 0) hx.1, hx.2⟩, fun e => ⟨(h.x1 e).1.mod hm (Ne.symm (h.ne rfl e)), (h.x1 e).2⟩, h.ne⟩
theorem ClV.put1 (h : ClV V w x a0 true s0 false W) : ClV V w x a0 true s0 true (W.setRow x.2 V) :=
  have hx := h.x1 rfl
  have hm := mod_row W x.2 V
  ⟨⟨h.m.os, h.m.tape, h.m.output, by simpa [World.setRow] using h.m.size, fun k hk hs => (hm.block k (Nat.lt_of_lt_of_le hk h.m.size) (by show ¬ _ = _; omega)).trans (h.m.block k hk hs)⟩,
    fun e => ⟨(h.x0 e).1.mod hm (h.ne e rfl), (h.x0 e).2⟩, fun _ => ⟨setRow_heap W x.2 v0 V 47 (0, 0) hx.1, hx.2⟩, h.ne⟩
end
/-- two pairs alike? -/
theorem eq_arr2 (a b c d : Int) (w : World) : (Op.equalIn 10000 180 (.agg #[.int .i64 a, .int .i64 b]) (.agg #[.int .i64 c, .int .i64 d])).run Try.prog w = .ok (a == c && b == d) w := by
  have u3 := Try.underlying3
  have a3 := Try.isAgg3
  have z3 := Try.sizeOf3
  rw [show (10000 : Nat) = 9999 + 1 from rfl, Op.equalIn]
  simp only [Sem.run_bind, run_underlying Try.underlying180, Result.andThen_ok]
  simp only [Std.Legacy.Range.forIn_eq_forIn_range', Std.Legacy.Range.size, Nat.sub_zero, Nat.add_sub_cancel, Nat.div_one, List.range'_succ, List.range'_zero, List.forIn_cons, List.forIn_nil]
  go_simp
  by_cases h1 : a = c <;> by_cases h2 : b = d <;> simp [h1, h2]
theorem run_neqS {ρ : Operand → Value} {o : Oper} {w : World} {x y : Operand} {i j : Int} (ho : o.op = .binOp .neq 180 x y 180) (hx : ρ x = .agg #[.int .i64 i, .int .i64 j]) (hy : ρ y = .agg #[.int .i64 i, .int .i64 j]) :
    (execOp ρ o).run Try.prog w = .ok (.value (.bool false)) w := by
  refine run_bin_v ho hx hy (by kernel_rfl) ?_
  rw [run_neq_struct, eq_arr2]
  simp [Result.andThen]
end Go.Proofs.Ytpbmeeogledmdae
