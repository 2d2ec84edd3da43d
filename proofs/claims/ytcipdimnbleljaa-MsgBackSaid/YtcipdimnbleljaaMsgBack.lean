/-
  'MsgBack': it returns true.
-/
import Derived.Test.YtcipdimnbleljaaMsgCut
import Derived.Test.YtcipdimnbleljaaRove
namespace Go.Proofs.Ytcipdimnbleljaa
open Go.ChangeShapes Go.WideShapes Go.ChangeAt Go.RowKit
open Extern.Stop (cell)

section
variable {ops : Array Oper}
theorem putAll_congr (ps : List (Tmp × Value)) (t : Tmp) : ∀ (a b : Act), a.tmps.size = b.tmps.size → a.tmps[t]? = b.tmps[t]? → (putAll ps a).tmps[t]? = (putAll ps b).tmps[t]? := by
  induction ps with
  | nil => intro a b _ h; exact h
  | cons y r ih =>
    intro a b hz h
    refine ih (a.put (some y.1) y.2) (b.put (some y.1) y.2) (by simp [Act.put, hz]) ?_
    simp only [Act.put, Array.getElem?_setIfInBounds, hz, h]
/-- two rows of slots that are unlike in one slot alone -/
theorem agree_set (k : Nat) (y : Tmp × Value) {L : List Nat} {ps qs : List (Tmp × Value)} {a : Act} (h : ps = qs.set k y) (hd : ((qs.map (·.1))[k]? == some y.1 && L.any fun c => dstOf ops c == some y.1) = true) : Agree ops L (putAll ps a) (putAll qs a) := by
  subst h
  rw [Bool.and_eq_true, beq_iff_eq, List.any_eq_true] at hd
  obtain ⟨hk, c, hc, hcd⟩ := hd
  intro t ht
  have hty : y.1 ≠ t := fun e => ht c hc (by rw [← e]; simpa using hcd)
  clear ht hc hcd
  induction qs generalizing k a with
  | nil => rfl
  | cons z r ih =>
    cases k with
    | zero =>
      simp only [List.map_cons, List.getElem?_cons_zero, Option.some.injEq] at hk
      show (putAll r (a.put (some y.1) y.2)).tmps[t]? = (putAll r (a.put (some z.1) z.2)).tmps[t]?
      refine putAll_congr r t _ _ (by simp [Act.put]) ?_
      simp only [Act.put, Array.getElem?_setIfInBounds_ne hty]
      rw [Array.getElem?_setIfInBounds_ne (by rw [hk]; exact hty)]
    | succ k =>
      simp only [List.map_cons, List.getElem?_cons_succ] at hk
      exact ih k hk
end
theorem msgD_p {d : DV} {p : Option Addr} {c : Nat} {q : Addr} (h : (msgD d p c).p = some q) : p = some q := by
  unfold msgD at h
  simp only at h
  split at h
  · exact h
  · cases h
theorem marks_lt {w : World} {m : MV} {q : Addr} (h : MarksAt w m) (hp : m.p = some q) (hne : m.ms ≠ []) : q.block < w.heap.size := by
  cases hm : m.ms with
  | nil => exact absurd hm hne
  | cons x r =>
    have h1 : (mkCells m.ms)[0]? = some (.int .i64 x.1) := by rw [hm]; rfl
    have h2 := h.cells q hp 0 _ h1
    have h3 := World.block_lt_of_cell? w _ h2
    rwa [show (q.add 0).block = q.block by unfold Addr.add; split <;> rfl] at h3
theorem decR_rg {s : ByteArray} (h : decE s = 0) (p : Option Addr) : MsgRg (decR s p) := by
  have hk : 1 ≤ Frm.parK s ∧ Frm.parK s ≤ 5 := by
    unfold decE at h
    split at h
    · rename_i h1; exact absurd h h1
    · split at h
      · cases h
      · omega
  have e : decR s p = decM (Frm.parK s) (Frm.parB s) p := by unfold decR; rw [if_pos h]
  rw [e]
  exact dec_rg _ _ _ ⟨by omega, by omega⟩
theorem decR_p {s : ByteArray} {p : Option Addr} {q : Addr} (h : (decR s p).p = some q) : p = some q := by
  unfold decR at h
  split at h
  · simp only [decM] at h
    split at h
    · exact h
    · cases h
  · cases h
theorem run_ix0 (A B : ByteArray) (w : World) : (Instr.index 59 (.agg #[.string A, .string B]) (.int .i64 0)).run Try.prog w = .ok (.string A) w := by kernel_rfl
theorem run_ix1 (A B : ByteArray) (w : World) : (Instr.index 59 (.agg #[.string A, .string B]) (.int .i64 1)).run Try.prog w = .ok (.string B) w := by kernel_rfl
theorem wpList_ix {P : Program} {ops : Array Oper} {rest : List Oper} {o : Oper} {a : Act} {w : World} {Q : Exit → Act → World → Prop} (hgd : Region.wanted o (yielded ops a.tmps) = true) (ty : TypeId) (x y : Operand) (ho : o.op = .index ty x y)
    (v1 v2 : Value) (hx : a.eval x = v1) (hy : a.eval y = v2) (v : Value) (hrun : (Instr.index ty v1 v2).run P w = .ok v w) (h : wpList P ops Q rest (a.put o.dst v) w) : wpList P ops Q (o :: rest) a w :=
  wpList_v hgd v (by unfold execOp; simp only [ho, hx, hy, Sem.run_bind, hrun, Sem.run_pure, Result.andThen_ok]) h
theorem run_allocM {ρ : Operand → Value} {o : Oper} {w : World} (ho : o.op = .alloc 42) : (execOp ρ o).run Try.prog w = .ok (.value (.pointer (some ⟨w.heap.size, 0, none⟩))) (w.alloc (.cells zero53 42)) := by
  unfold execOp
  simp only [ho]
  kernel_rfl

structure BX where
  M0 : Array Value
  p0 : Option Addr
  c0 : Nat
  M1 : Array Value
  p1 : Option Addr
  c1 : Nat
  g0 : Nat
  g1 : Nat
/-- a message that a call made, apart from a box -/
def Apt (m : MV) (g : Nat) : Prop := ∀ q, m.p = some q → m.ms ≠ [] → q.block ≠ g
structure ClB (C0 C1 : Array Value) (d0 d1 : DV) (w : World) (x : BX) (m0 m1 a0 a1 s0 s1 : Bool) (w' : World) : Prop where
  b0 : Blk w' w.heap.size C0 28
  b1 : Blk w' (w.heap.size + 1) C1 28
  low : Below w.heap.size w w'
  o0 : m0 = true → MsgOf x.M0 (msgD d0 x.p0 x.c0)
  o1 : m1 = true → MsgOf x.M1 (msgD d1 x.p1 x.c1)
  k0 : m0 = true → MarksAt w' (msgD d0 x.p0 x.c0)
  k1 : m1 = true → MarksAt w' (msgD d1 x.p1 x.c1)
  x0 : a0 = true → Blk w' x.g0 (bif s0 then x.M0 else zero53) 42 ∧ w.heap.size + 2 ≤ x.g0
  x1 : a1 = true → Blk w' x.g1 (bif s1 then x.M1 else zero53) 42 ∧ w.heap.size + 2 ≤ x.g1
  q00 : m0 = true → a0 = true → Apt (msgD d0 x.p0 x.c0) x.g0
  q01 : m0 = true → a1 = true → Apt (msgD d0 x.p0 x.c0) x.g1
  q10 : m1 = true → a0 = true → Apt (msgD d1 x.p1 x.c1) x.g0
  q11 : m1 = true → a1 = true → Apt (msgD d1 x.p1 x.c1) x.g1
  ne : a0 = true → a1 = true → x.g0 ≠ x.g1
section
variable {C0 C1 : Array Value} {d0 d1 : DV} {w w' w'' : World} {x : BX} {m0 m1 a0 a1 s0 s1 : Bool} {M : Array Value} {p : Option Addr} {c : Nat}
theorem apt_new {m : MV} {g : Nat} {C : Array Value} {t : TypeId} (hq : ∀ q, m.p = some q → w'.heap.size ≤ q.block) (h : Blk w' g C t) : Apt m g := fun q hp _ => by
  have := hq q hp
  have := h.lt
  omega
theorem apt_end {m : MV} (h : MarksAt w' m) : Apt m w'.heap.size := fun q hp hne => by
  have := marks_lt h hp hne
  omega
theorem marks_apt {m : MV} {g : Nat} (h : MarksAt w' m) (ha : Apt m g) (hm : Mod (· = g) w' w'') : MarksAt w'' m := by
  by_cases hne : m.ms = []
  · exact nil_marks m w'' hne
  · exact h.mod hm (fun a hp => ha a hp hne)
theorem ClB.size (h : ClB C0 C1 d0 d1 w x m0 m1 a0 a1 s0 s1 w') : w.heap.size + 2 ≤ w'.heap.size := by have := h.b1.lt; omega
theorem ClB.call0 (h : ClB C0 C1 d0 d1 w x false m1 a0 a1 false s1 w') (hb : Below w'.heap.size w' w'') (hM : MsgOf M (msgD d0 p c)) (hA : MarksAt w'' (msgD d0 p c)) (hq : ∀ q, p = some q → w'.heap.size ≤ q.block) :
    ClB C0 C1 d0 d1 w { x with M0 := M, p0 := p, c0 := c } true m1 a0 a1 false s1 w'' :=
  have hm := (Mod.refl (fun _ => False) w').after hb
  have hq' : ∀ q, (msgD d0 p c).p = some q → w'.heap.size ≤ q.block := fun q e => hq q (msgD_p e)
  ⟨h.b0.mod hm (fun h => h), h.b1.mod hm (fun h => h), h.low.trans (hb.mono h.low.size), fun _ => hM, h.o1, fun _ => hA, fun e => marks_below (h.k1 e) hb, fun e => ⟨(h.x0 e).1.mod hm (fun h => h), (h.x0 e).2⟩, fun e => ⟨(h.x1 e).1.mod hm (fun h => h), (h.x1 e).2⟩,
    fun _ e => apt_new hq' (h.x0 e).1, fun _ e => apt_new hq' (h.x1 e).1, h.q10, h.q11, h.ne⟩
theorem ClB.call1 (h : ClB C0 C1 d0 d1 w x m0 false a0 a1 s0 false w') (hb : Below w'.heap.size w' w'') (hM : MsgOf M (msgD d1 p c)) (hA : MarksAt w'' (msgD d1 p c)) (hq : ∀ q, p = some q → w'.heap.size ≤ q.block) :
    ClB C0 C1 d0 d1 w { x with M1 := M, p1 := p, c1 := c } m0 true a0 a1 s0 false w'' :=
  have hm := (Mod.refl (fun _ => False) w').after hb
  have hq' : ∀ q, (msgD d1 p c).p = some q → w'.heap.size ≤ q.block := fun q e => hq q (msgD_p e)
  ⟨h.b0.mod hm (fun h => h), h.b1.mod hm (fun h => h), h.low.trans (hb.mono h.low.size), h.o0, fun _ => hM, fun e => marks_below (h.k0 e) hb, fun _ => hA, fun e => ⟨(h.x0 e).1.mod hm (fun h => h), (h.x0 e).2⟩, fun e => ⟨(h.x1 e).1.mod hm (fun h => h), (h.x1 e).2⟩,
    h.q00, h.q01, fun _ e => apt_new hq' (h.x0 e).1, fun _ e => apt_new hq' (h.x1 e).1, h.ne⟩
theorem below_alloc (w : World) (o : Obj) : Below w.heap.size w (w.alloc o) := (Below.refl _ _).alloc (Nat.le_refl _) o
theorem ClB.box0 (h : ClB C0 C1 d0 d1 w x m0 m1 false a1 false s1 w') : ClB C0 C1 d0 d1 w { x with g0 := w'.heap.size } m0 m1 true a1 false s1 (w'.alloc (.cells zero53 42)) :=
  have hb := below_alloc w' (.cells zero53 42)
  ⟨h.b0.alloc _, h.b1.alloc _, h.low.alloc h.low.size _, h.o0, h.o1, fun e => marks_below (h.k0 e) hb, fun e => marks_below (h.k1 e) hb, fun _ => ⟨Blk.new w' _ _, h.size⟩, fun e => ⟨(h.x1 e).1.alloc _, (h.x1 e).2⟩,
    fun e _ => apt_end (h.k0 e), h.q01, fun e _ => apt_end (h.k1 e), h.q11, fun _ e => by have := (h.x1 e).1.lt; show w'.heap.size ≠ x.g1; omega⟩
theorem ClB.box1 (h : ClB C0 C1 d0 d1 w x m0 m1 a0 false s0 false w') : ClB C0 C1 d0 d1 w { x with g1 := w'.heap.size } m0 m1 a0 true s0 false (w'.alloc (.cells zero53 42)) :=
  have hb := below_alloc w' (.cells zero53 42)
  ⟨h.b0.alloc _, h.b1.alloc _, h.low.alloc h.low.size _, h.o0, h.o1, fun e => marks_below (h.k0 e) hb, fun e => marks_below (h.k1 e) hb, fun e => ⟨(h.x0 e).1.alloc _, (h.x0 e).2⟩, fun _ => ⟨Blk.new w' _ _, h.size⟩,
    h.q00, fun e _ => apt_end (h.k0 e), h.q10, fun e _ => apt_end (h.k1 e), fun e _ => by have := (h.x0 e).1.lt; show x.g0 ≠ w'.heap.size; omega⟩
theorem mod_row (w : World) (g : Nat) (R : Array Value) : Mod (· = g) w (w.setRow g R) := ⟨rfl, rfl, rfl, by simp [World.setRow], fun k _ hk => setRow_other w g k R hk⟩
theorem ClB.put0 (h : ClB C0 C1 d0 d1 w x true m1 true a1 false s1 w') : ClB C0 C1 d0 d1 w x true m1 true a1 true s1 (w'.setRow x.g0 x.M0) :=
  have hx := h.x0 rfl
  have hm := mod_row w' x.g0 x.M0
  ⟨h.b0.mod hm (by show ¬ _ = _; omega), h.b1.mod hm (by show ¬ _ = _; omega), h.low.trans (hm.below h.low.size (fun _ e => by omega)), h.o0, h.o1, fun e => marks_apt (h.k0 e) (h.q00 e rfl) hm, fun e => marks_apt (h.k1 e) (h.q10 e rfl) hm,
    fun _ => ⟨setRow_heap w' x.g0 zero53 x.M0 42 (0, 0) hx.1, hx.2⟩, fun e => ⟨(h.x1 e).1.mod hm (Ne.symm (h.ne rfl e)), (h.x1 e).2⟩, h.q00, h.q01, h.q10, h.q11, h.ne⟩
theorem ClB.put1 (h : ClB C0 C1 d0 d1 w x m0 true a0 true s0 false w') : ClB C0 C1 d0 d1 w x m0 true a0 true s0 true (w'.setRow x.g1 x.M1) :=
  have hx := h.x1 rfl
  have hm := mod_row w' x.g1 x.M1
  ⟨h.b0.mod hm (by show ¬ _ = _; omega), h.b1.mod hm (by show ¬ _ = _; omega), h.low.trans (hm.below h.low.size (fun _ e => by omega)), h.o0, h.o1, fun e => marks_apt (h.k0 e) (h.q01 e rfl) hm, fun e => marks_apt (h.k1 e) (h.q11 e rfl) hm,
    fun e => ⟨(h.x0 e).1.mod hm (h.ne e rfl), (h.x0 e).2⟩, fun _ => ⟨setRow_heap w' x.g1 zero53 x.M1 42 (0, 0) hx.1, hx.2⟩, h.q00, h.q01, h.q10, h.q11, h.ne⟩
end
theorem ba_beq (a b : ByteArray) : (a == b) = decide (a = b) := by
  cases a with | mk x => cases b with | mk y =>
  have h : (({ data := x } : ByteArray) == { data := y }) = (x == y) := by
    show ByteArray.beq _ _ = _
    simp only [ByteArray.beq]
  rw [h, Bool.eq_iff_iff]
  simp
theorem ba_list (a b : ByteArray) : (a.toList == b.toList) = decide (a = b) := by
  rw [Bool.eq_iff_iff]
  simp only [beq_iff_eq, decide_eq_true_eq]
  constructor
  · intro h
    have h2 : a.data.toList = b.data.toList := by rw [← ByteArray.toList_eq, ← ByteArray.toList_eq]; exact h
    cases a; cases b
    simp only [ByteArray.mk.injEq]
    exact Array.toList_inj.1 h2
  · intro h; rw [h]
theorem sk_s {R : Value → World → Prop} {P : Program} {r : Result Next} {w : World} (h : r = .ok .skip w) (hC : R undef w) : upon2 P R r := by rw [h]; exact hC
theorem sk_v {R : Value → World → Prop} {P : Program} {r : Result Next} {v : Value} {w : World} (h : r = .ok (.value v) w) (hC : R v w) : upon2 P R r := by rw [h]; exact hC
set_option maxHeartbeats 2000000 in
set_option maxRecDepth 100000 in
theorem MsgBack_walk (C0 C1 : Array Value) (d0 d1 : DV) (s : ByteArray) (w : World) (h0 : DraftOf C0 d0) (r0 : DraftRg d0) (a0 : BysAt w d0.p d0.bs) (h1 : DraftOf C1 d1) (r1 : DraftRg d1) (a1 : BysAt w d1.p d1.bs) (hs : s.size ≤ maxLen) :
    Calls Try.prog 5 #[.agg C0, .agg C1, .string s] w fun e w' => e = .returned (.bool true) ∧ Below w.heap.size w w' := by
  unfold maxLen at hs
  have HW := Lib.hid works_calls
  have hs0 := h0.size
  have hs1 := h1.size
  have hm0 := Lib.hid (fun wx (h : Below w.heap.size w wx) => draft_calls C0 d0 wx h0 r0 (a0.below h))
  have hm1 := Lib.hid (fun wx (h : Below w.heap.size w wx) => draft_calls C1 d1 wx h1 r1 (a1.below h))
  have hi0 : (Try.prog.info? 28).map (·.size) = some C0.size := by rw [hs0]; kernel_rfl
  have hi1 : (Try.prog.info? 28).map (·.size) = some C1.size := by rw [hs1]; kernel_rfl
  have hld0 := Lib.hid (fun wx (h : Blk wx w.heap.size C0 28) => run_load_row' (P := Try.prog) wx w.heap.size 28 C0 28 _ h Try.underlying28 rfl hi0)
  have hld1 := Lib.hid (fun wx (h : Blk wx (w.heap.size + 1) C1 28) => run_load_row' (P := Try.prog) wx (w.heap.size + 1) 28 C1 28 _ h Try.underlying28 rfl hi1)
  replace hi0 := Lib.hid hi0
  replace hi1 := Lib.hid hi1
  clear hs0 hs1 h0 h1 a0 a1
  go_enter Try.func5, Try.ntmps5
  go_wp2_with fail
  refine (HW.out _).mono ?_
  rintro e w1 ⟨rfl, hb1⟩
  have hb := ((Below.refl w.heap.size w).alloc (Nat.le_refl _) (.cells C0 28)).alloc (by simp) (.cells C1 28)
  have B0 := Lib.hid (((Blk.new w C0 28).alloc (.cells C1 28)).mod ((Mod.refl (fun _ => False) _).after hb1) (fun h => h))
  have B1 := Lib.hid ((Blk.new' w (.cells C0 28) C1 28).mod ((Mod.refl (fun _ => False) _).after hb1) (fun h => h))
  replace hb1 := hb.trans (hb1.mono hb.size)
  clear hb
  go_upto_region 3 with fail
  have hbb := Lib.hid hb1
  refine wp_region_rove (X := BX) ⟨#[], none, 0, #[], none, 0, 0, 0⟩ (fun x => [(21, .agg C0), (22, .agg x.M0), (23, .agg C1), (24, .agg x.M1), (7, .pointer (some ⟨x.g0, 0, none⟩)), (8, .pointer (some ⟨x.g1, 0, none⟩))])
    (fun x d wx => ClB C0 C1 d0 d1 w x (d 1) (d 3) (d 4) (d 5) (d 6) (d 7) wx) (by kernel_rfl) (by kernel_rfl) (by kernel_rfl) (by kernel_rfl) (fun x => by kernel_rfl)
    ⟨B0.out.drew, B1.out.drew, hb1.drew, (fun h => by cases h), (fun h => by cases h), (fun h => by cases h), (fun h => by cases h), (fun h => by cases h), (fun h => by cases h), (fun h => by cases h), (fun h => by cases h), (fun h => by cases h), (fun h => by cases h), (fun h => by cases h)⟩ ?_ ?_
  · intro aF hAF
    have E3 : ∀ x, (aF x).eval (.tmp 3) = .pointer (some ⟨w.heap.size, 0, none⟩) := by intro x; rw [hAF]; kernel_rfl
    have E4 : ∀ x, (aF x).eval (.tmp 4) = .pointer (some ⟨w.heap.size + 1, 0, none⟩) := by intro x; rw [hAF]; kernel_rfl
    have T21 : ∀ x, (aF x).tmps[21]? = some (.agg C0) := by intro x; rw [hAF]; kernel_rfl
    have E21 : ∀ x, (aF x).eval (.tmp 21) = .agg C0 := by intro x; rw [hAF]; kernel_rfl
    have T22 : ∀ x, (aF x).tmps[22]? = some (.agg x.M0) := by intro x; rw [hAF]; kernel_rfl
    have E22 : ∀ x, (aF x).eval (.tmp 22) = .agg x.M0 := by intro x; rw [hAF]; kernel_rfl
    have T23 : ∀ x, (aF x).tmps[23]? = some (.agg C1) := by intro x; rw [hAF]; kernel_rfl
    have E23 : ∀ x, (aF x).eval (.tmp 23) = .agg C1 := by intro x; rw [hAF]; kernel_rfl
    have T24 : ∀ x, (aF x).tmps[24]? = some (.agg x.M1) := by intro x; rw [hAF]; kernel_rfl
    have E24 : ∀ x, (aF x).eval (.tmp 24) = .agg x.M1 := by intro x; rw [hAF]; kernel_rfl
    have T7 : ∀ x, (aF x).tmps[7]? = some (.pointer (some ⟨x.g0, 0, none⟩)) := by intro x; rw [hAF]; kernel_rfl
    have E7 : ∀ x, (aF x).eval (.tmp 7) = .pointer (some ⟨x.g0, 0, none⟩) := by intro x; rw [hAF]; kernel_rfl
    have T8 : ∀ x, (aF x).tmps[8]? = some (.pointer (some ⟨x.g1, 0, none⟩)) := by intro x; rw [hAF]; kernel_rfl
    have E8 : ∀ x, (aF x).eval (.tmp 8) = .pointer (some ⟨x.g1, 0, none⟩) := by intro x; rw [hAF]; kernel_rfl
    replace hAF := Lib.hid hAF
    refine ⟨?_, ?_, ?_, ?_, ?_, ?_, ?_, ?_, trivial⟩
    · exact opOk3_quiet _ (by intro x t hd _; cases hd; exact T21 x) (fun _ => rfl) fun x d w' hd hc => sv (run_load1 rfl (E3 x) (hld0.out _ hc.b0)) hc
    · exact opOk3_loud rfl fun x d w' hd hn hc => by
        have n1 : d 1 = false := hn 1 (by kernel_rfl)
        have n6 : d 6 = false := hn 6 (by kernel_rfl)
        rw [n1, n6] at hc
        refine sk (run_msg rfl (E21 x) rfl) ((hm0.out w' hc.low).mono ?_)
        rintro e w'' ⟨M, p, c, rfl, hb, hM, hA, hq⟩
        refine ⟨_, rfl, { x with M0 := M, p0 := p, c0 := c }, (by rw [hAF.out]; exact agree_set 1 (22, .agg x.M0) rfl (by kernel_rfl)), (by intro t hd _; cases hd; exact T22 _), ?_⟩
        have := hc.call0 hb hM hA hq
        show ClB C0 C1 d0 d1 w _ true (d 3) (d 4) (d 5) (d 6) (d 7) w''
        rw [n6]
        exact this
    · exact opOk3_quiet _ (by intro x t hd _; cases hd; exact T23 x) (fun _ => rfl) fun x d w' hd hc => sv (run_load1 rfl (E4 x) (hld1.out _ hc.b1)) hc
    · exact opOk3_loud rfl fun x d w' hd hn hc => by
        have n1 : d 3 = false := hn 3 (by kernel_rfl)
        have n6 : d 7 = false := hn 7 (by kernel_rfl)
        rw [n1, n6] at hc
        refine sk (run_msg rfl (E23 x) rfl) ((hm1.out w' hc.low).mono ?_)
        rintro e w'' ⟨M, p, c, rfl, hb, hM, hA, hq⟩
        refine ⟨_, rfl, { x with M1 := M, p1 := p, c1 := c }, (by rw [hAF.out]; exact agree_set 3 (24, .agg x.M1) rfl (by kernel_rfl)), (by intro t hd _; cases hd; exact T24 _), ?_⟩
        have := hc.call1 hb hM hA hq
        show ClB C0 C1 d0 d1 w _ (d 1) true (d 4) (d 5) (d 6) (d 7) w''
        rw [n6]
        exact this
    · exact opOk3_loud rfl fun x d w' hd hn hc => by
        have n1 : d 4 = false := hn 4 (by kernel_rfl)
        have n6 : d 6 = false := hn 6 (by kernel_rfl)
        rw [n1, n6] at hc
        refine sk_v (run_allocM rfl) ?_
        refine ⟨{ x with g0 := w'.heap.size }, (by rw [hAF.out]; exact agree_set 4 (7, .pointer (some ⟨x.g0, 0, none⟩)) rfl (by kernel_rfl)), (by intro t hd _; cases hd; exact T7 _), ?_⟩
        have := hc.box0
        show ClB C0 C1 d0 d1 w _ (d 1) (d 3) true (d 5) (d 6) (d 7) _
        rw [n6]
        exact this
    · exact opOk3_loud rfl fun x d w' hd hn hc => by
        have n1 : d 5 = false := hn 5 (by kernel_rfl)
        have n6 : d 7 = false := hn 7 (by kernel_rfl)
        rw [n1, n6] at hc
        refine sk_v (run_allocM rfl) ?_
        refine ⟨{ x with g1 := w'.heap.size }, (by rw [hAF.out]; exact agree_set 5 (8, .pointer (some ⟨x.g1, 0, none⟩)) rfl (by kernel_rfl)), (by intro t hd _; cases hd; exact T8 _), ?_⟩
        have := hc.box1
        show ClB C0 C1 d0 d1 w _ (d 1) (d 3) (d 4) true (d 6) (d 7) _
        rw [n6]
        exact this
    · exact opOk3_loud rfl fun x d w' hd hn hc => by
        have n1 : d 1 = true := hd 1 (by kernel_rfl)
        have n4 : d 4 = true := hd 4 (by kernel_rfl)
        have n6 : d 6 = false := hn 6 (by kernel_rfl)
        rw [n1, n4, n6] at hc
        have hM := hc.o0 rfl
        refine sk_s (run_storeP (ty := 42) rfl (E7 x) (E22 x) (run_storeVar_row2 w' x.g0 42 zero53 x.M0 42 (hc.x0 rfl).1 hM.size.symm (msg_one hM) (msg_size _ hM.size))) ⟨x, agree_same _ _, (by intro t hd _; cases hd), ?_⟩
        show ClB C0 C1 d0 d1 w _ (d 1) (d 3) (d 4) (d 5) true (d 7) _
        rw [n1, n4]
        exact hc.put0
    · exact opOk3_loud rfl fun x d w' hd hn hc => by
        have n1 : d 3 = true := hd 3 (by kernel_rfl)
        have n4 : d 5 = true := hd 5 (by kernel_rfl)
        have n6 : d 7 = false := hn 7 (by kernel_rfl)
        rw [n1, n4, n6] at hc
        have hM := hc.o1 rfl
        refine sk_s (run_storeP (ty := 42) rfl (E8 x) (E24 x) (run_storeVar_row2 w' x.g1 42 zero53 x.M1 42 (hc.x1 rfl).1 hM.size.symm (msg_one hM) (msg_size _ hM.size))) ⟨x, agree_same _ _, (by intro t hd _; cases hd), ?_⟩
        show ClB C0 C1 d0 d1 w _ (d 1) (d 3) (d 4) (d 5) (d 6) true _
        rw [n1, n4]
        exact hc.put1
  · intro x d w2 hd hc
    simp only [putAll, List.foldl_cons, List.foldl_nil, Act.put, List.setIfInBounds_toArray, List.set_cons_succ, List.set_cons_zero]
    obtain ⟨M0, p0, c0, M1, p1, c1, g0, g1⟩ := x
    rw [hd 1 (by decide), hd 3 (by decide), hd 4 (by decide), hd 5 (by decide), hd 6 (by decide), hd 7 (by decide)] at hc
    have hb2 := hc.low
    have hM0 : MsgOf M0 (msgD d0 p0 c0) := hc.o0 rfl
    have hM1 : MsgOf M1 (msgD d1 p1 c1) := hc.o1 rfl
    have hA0 : MarksAt w2 (msgD d0 p0 c0) := hc.k0 rfl
    have hA1 : MarksAt w2 (msgD d1 p1 c1) := hc.k1 rfl
    have hX0 : Blk w2 g0 M0 42 := (hc.x0 rfl).1
    have hX1 : Blk w2 g1 M1 42 := (hc.x1 rfl).1
    clear hc hd B0 B1 hld0 hld1 hm0 hm1 hb1 hbb hi0 hi1
    have after : ∀ wx, Below w2.heap.size w2 wx → Mod (fun _ => False) w2 wx := fun wx h => (Mod.refl _ _).after h
    have hl0 := Lib.hid (fun wx (h : Below w2.heap.size w2 wx) => run_load_row' (P := Try.prog) wx g0 42 M0 42 _ (hX0.mod (after wx h) (fun h => h)) Try.underlying42 rfl (msg_size _ hM0.size))
    have hl1 := Lib.hid (fun wx (h : Below w2.heap.size w2 wx) => run_load_row' (P := Try.prog) wx g1 42 M1 42 _ (hX1.mod (after wx h) (fun h => h)) Try.underlying42 rfl (msg_size _ hM1.size))
    have he0 := Lib.hid (fun wx (h : Below w2.heap.size w2 wx) => lays_draft M0 d0 p0 c0 wx r0 hM0 (marks_below hA0 h))
    have he1 := Lib.hid (fun wx (h : Below w2.heap.size w2 wx) => lays_draft M1 d1 p1 c1 wx r1 hM1 (marks_below hA1 h))
    have hs01 := Lib.hid (fun wx (h : Below w2.heap.size w2 wx) => same_calls M0 M1 _ _ wx hM0 hM1 (marks_below hA0 h).mks (marks_below hA1 h).mks)
    have q01 := enc_same (good_draft r0 p0 c0) (good_draft r1 p1 c1)
    rw [← q01, enc_any, enc_any d1] at hs01
    have hz0 := enc_le r0
    obtain ⟨de, dr⟩ := dec_enc (good_draft r0 p0 c0)
    rw [enc_any] at de dr
    have hdc := Lib.hid (fun wx => decode_calls (encS (msgD d0 none 0)) wx (by omega))
    have hsm := Lib.hid (fun (C : Array Value) (p : Option Addr) (wx : World) (hC : MsgOf C (decR (encS (msgD d0 none 0)) p)) (hA : MarksAt wx (decR (encS (msgD d0 none 0)) p)) (h : Below w2.heap.size w2 wx) => (by
      have h1 := same_calls C M0 _ _ wx hC hM0 hA.mks (marks_below hA0 h).mks
      rwa [(alB_iff _ _).2 (dr p)] at h1 : Calls Try.prog 19 #[.agg C, .agg M0] wx fun e w' => e = .returned (.bool true) ∧ Below wx.heap.size wx w'))
    have hcs := Lib.hid (fun (C : Array Value) (p : Option Addr) (hC : MsgOf C (decR (encS (msgD d0 none 0)) p)) => hC.size)
    clear q01 hM0 hM1 hA0 hA1 hX0 hX1 dr after r0 r1
    unfold DecPost at hdc
    rw [de] at hdc
    generalize encS (msgD d0 none 0) = S0 at *
    generalize encS (msgD d1 none 0) = S1 at *
    go_wp2_with (refine wpList_load_v rfl 42 _ rfl ⟨g0, 0, none⟩ rfl _ (hl0.out _ (Below.refl _ _)) ?_)
    refine (he0.out _ (Below.refl _ _)).mono ?_
    rintro e w3 ⟨rfl, hb3⟩
    go_wp2_with (refine wpList_load_v rfl 42 _ rfl ⟨g1, 0, none⟩ rfl _ (hl1.out _ hb3) ?_)
    refine (he1.out _ hb3).mono ?_
    rintro e w4 ⟨rfl, hb4⟩
    replace hb4 := hb3.trans (hb4.mono hb3.size)
    clear hb3 he0 he1
    go_wp2_with fail
    refine (hdc.out _).mono ?_
    rintro e w5 ⟨C, p, rfl, hb5, hC, hA, -⟩
    replace hb5 := hb4.trans (hb5.mono hb4.size)
    clear hb4 hdc
    have hnew := Lib.hid (show zero53.size = C.size by rw [hC.size]; rfl)
    have hone := Lib.hid (msg_one hC)
    have hsz := Lib.hid (msg_size C hC.size)
    have HC := Lib.hid hC
    have HA := Lib.hid hA
    clear hC hA
    go_upto_region 7 with (refine wpList_store_new rfl 42 _ _ rfl rfl rfl _ C _ rfl (by exact hnew.out) hone.out hsz.out ?_)
    refine wp_world' (fun wx => Below w2.heap.size w2 wx ∧ MarksAt wx (decR S0 p) ∧ Blk wx w5.heap.size C 42) ⟨hb5.alloc hb5.size _, marks_below HA.out (below_alloc _ _), Blk.new _ _ _⟩ ?_
    rintro w6 ⟨hb6, hA6, hB6⟩
    have hg3 := hb5.size
    generalize w5.heap.size = g3 at *
    have hl3 := Lib.hid (fun wx (h : Blk wx g3 C 42) => run_load_row' (P := Try.prog) wx g3 42 C 42 _ h Try.underlying42 rfl hsz.out)
    have HB6 := Lib.hid hB6
    have hsm6 := Lib.hid (hsm.out C p w6 HC.out hA6 hb6)
    clear HA hA6 hB6 hsm hb5 hnew hone
    have hpc : ∀ b c : Bool, (b == c) = true ↔ b = c := fun b c => by simp
    go_wp2_with (first | (refine wpList_load_v rfl 42 _ rfl ⟨g3, 0, none⟩ rfl _ (hl3.out _ HB6.out) ?_) | (refine wpList_load_v rfl 42 _ rfl ⟨g0, 0, none⟩ rfl _ (hl0.out _ hb6) ?_))
    refine hsm6.out.mono ?_
    rintro e w7 ⟨rfl, hb7⟩
    have hB7 := HB6.out.mod ((Mod.refl (fun _ => False) _).after hb7) (fun h => h)
    replace hb7 := hb6.trans (hb7.mono hb6.size)
    clear HB6 hl3 hb6 hsm6
    go_wp2_with (first | (refine wpList_load_v rfl 42 _ rfl ⟨g0, 0, none⟩ rfl _ (hl0.out _ hb7) ?_) | (refine wpList_load_v rfl 42 _ rfl ⟨g1, 0, none⟩ rfl _ (hl1.out _ hb7) ?_))
    refine (hs01.out _ hb7).mono ?_
    rintro e w8 ⟨rfl, hb8⟩
    have hB8 := hB7.mod ((Mod.refl (fun _ => False) _).after hb8) (fun h => h)
    replace hb8 := hb7.trans (hb8.mono hb7.size)
    clear hB7 hb7 hl0 hl1 hs01
    clear hpc
    generalize hq : decide (S0 = S1) = q
    have hq2 : (S0.toList == S1.toList) = q := by rw [← hq, ba_list]
    by_cases hle : (s.size : Int) ≤ 1000
    · have hmi : min (s.size : Int) 1000 = s.size := by omega
      go_upto_region 10 with fail
      clear hq hq2 hmi
      have hS1 : s.size ≤ 1000 := by omega
      have hb9 := hb2.trans (hb8.mono hb2.size)
      have hg4 : w.heap.size ≤ g3 := Nat.le_trans hb2.size hg3
      have hround : ∀ T : ByteArray, T.size ≤ 1003 → Hid (∀ wx, Calls Try.prog 18 #[.string T] wx (DecPost T wx)) := fun T hT => Lib.hid (fun wx => decode_calls T wx (by omega))
      have h53 : ∃ X, Blk w8 g3 X 42 ∧ X.size = 53 := ⟨C, hB8, HC.out.size⟩
      clear hB8 HC hb8 hsz
      go_wp2_with fail
      go_loopw [74] (fun i wr => ∃ k : Nat, k ≤ 2 ∧ i = .int .i64 k ∧ (∃ X, Blk wr g3 X 42 ∧ X.size = 53) ∧ Below w.heap.size w wr) (fun i _ => 2 - (intOf i).toNat)
      case atStart => exact ⟨0, by omega, rfl, h53, hb9⟩
      case round =>
        obtain ⟨k, hk8, rfl, ⟨X, hX, hXs⟩, hb⟩ := hrel
        obtain rfl | rfl | rfl : k = 0 ∨ k = 1 ∨ k = 2 := by omega
        · go_wp2_with (first | (refine wpList_ix rfl 59 _ _ rfl _ _ rfl rfl _ (run_ix0 _ _ _) ?_) | (refine wpList_ix rfl 59 _ _ rfl _ _ rfl rfl _ (run_ix1 _ _ _) ?_))
          refine ((hround (s) (by omega)).out _).mono ?_
          rintro e wd ⟨D, p, rfl, hbd, hD, hA, hp⟩
          have HX := Lib.hid (hX.mod ((Mod.refl (fun _ => False) _).after hbd) (fun h => h))
          have hXl := hX.lt
          have hbw := hb.trans (hbd.mono hb.size)
          have hzs := Lib.hid (show X.size = D.size by rw [hXs, hD.size])
          have hone := Lib.hid (msg_one hD)
          have hsz := Lib.hid (msg_size D hD.size)
          have HD := Lib.hid hD
          have HA := Lib.hid (fun (wz : World) (h : Mod (· = g3) wd wz) => hA.mod h (fun a ha e => by have := hp a (decR_p ha); omega))
          have hl := Lib.hid (fun (wz : World) (h : Blk wz g3 D 42) => run_load_row' (P := Try.prog) wz g3 42 D 42 _ h Try.underlying42 rfl hsz.out)
          clear hD hA hp hX hXs hbd
          by_cases hE : decE (s) = 0
          · rw [hE]
            go_upto_region 14 with (refine wpList_store_row2 rfl 42 _ _ rfl rfl g3 rfl X D 42 HX.out rfl (by exact hzs.out) hone.out hsz.out ?_; intro wz hBz hmz)
            have hen := encode_calls D (decR (s) p) wz HD.out (HA.out wz hmz) (decR_rg hE p)
            rw [(enc_dec hE p).1, (enc_dec hE p).2] at hen
            have Hen := Lib.hid hen
            have hbz := hbw.trans (hmz.below hbw.size (fun x hx => by omega))
            have HBz := Lib.hid hBz
            clear hen hmz HX hbw hb HA hBz
            go_wp2_with (refine wpList_load_v rfl 42 _ rfl ⟨g3, 0, none⟩ rfl _ (hl.out _ HBz.out) ?_)
            refine Hen.out.mono ?_
            rintro e wf ⟨rfl, hbf⟩
            have hq4 : ((s).toList == (s).toList) = true := by simp
            go_wp2_with fail
            go_roundw
            case rel => exact ⟨1, by omega, rfl, ⟨D, HBz.out.mod ((Mod.refl (fun _ => False) _).after hbf) (fun h => h), HD.out.size⟩, hbz.trans (hbf.mono hbz.size)⟩
            case measure => simp [intOf]
          · have ie : (decE (s) == (0 : Int)) = false := beq_eq_false_iff_ne.2 hE
            have ie2 : (decE (s) != (0 : Int)) = true := by rw [bne, ie]; rfl
            have hD0 := HD.out
            rw [decR_no rfl hE] at hD0
            have HS := Lib.hid (fun (wz : World) => (by
              have h1 := same_calls D zero53 zeroM zeroM wz hD0 zero_of (mks_none _) (mks_none _)
              rwa [zero_same] at h1 : Calls Try.prog 19 #[.agg D, .agg zero53] wz fun e w' => e = .returned (.bool true) ∧ Below wz.heap.size wz w'))
            clear hD0 HA
            go_upto_region 14 with (refine wpList_store_row2 rfl 42 _ _ rfl rfl g3 rfl X D 42 HX.out rfl (by exact hzs.out) hone.out hsz.out ?_; intro wz hBz hmz)
            have hbz := hbw.trans (hmz.below hbw.size (fun x hx => by omega))
            have HBz := Lib.hid hBz
            clear hmz HX hbw hb hBz
            go_wp2_with (first | (refine wpList_load_v rfl 42 _ rfl ⟨g3, 0, none⟩ rfl _ (hl.out _ HBz.out) ?_) | (refine wpList_build_v rfl 42 rfl _ (run_zero _) ?_))
            refine (HS.out _).mono ?_
            rintro e wf ⟨rfl, hbf⟩
            go_wp2_with fail
            go_roundw
            case rel => exact ⟨1, by omega, rfl, ⟨D, HBz.out.mod ((Mod.refl (fun _ => False) _).after hbf) (fun h => h), HD.out.size⟩, hbz.trans (hbf.mono hbz.size)⟩
            case measure => simp [intOf]

        · go_wp2_with (first | (refine wpList_ix rfl 59 _ _ rfl _ _ rfl rfl _ (run_ix0 _ _ _) ?_) | (refine wpList_ix rfl 59 _ _ rfl _ _ rfl rfl _ (run_ix1 _ _ _) ?_))
          refine ((hround ((⟨#[2, 0, 34]⟩ : ByteArray) ++ s) (by rw [ByteArray.size_append]; show 3 + _ ≤ _; omega)).out _).mono ?_
          rintro e wd ⟨D, p, rfl, hbd, hD, hA, hp⟩
          have HX := Lib.hid (hX.mod ((Mod.refl (fun _ => False) _).after hbd) (fun h => h))
          have hXl := hX.lt
          have hbw := hb.trans (hbd.mono hb.size)
          have hzs := Lib.hid (show X.size = D.size by rw [hXs, hD.size])
          have hone := Lib.hid (msg_one hD)
          have hsz := Lib.hid (msg_size D hD.size)
          have HD := Lib.hid hD
          have HA := Lib.hid (fun (wz : World) (h : Mod (· = g3) wd wz) => hA.mod h (fun a ha e => by have := hp a (decR_p ha); omega))
          have hl := Lib.hid (fun (wz : World) (h : Blk wz g3 D 42) => run_load_row' (P := Try.prog) wz g3 42 D 42 _ h Try.underlying42 rfl hsz.out)
          clear hD hA hp hX hXs hbd
          by_cases hE : decE ((⟨#[2, 0, 34]⟩ : ByteArray) ++ s) = 0
          · rw [hE]
            go_upto_region 14 with (refine wpList_store_row2 rfl 42 _ _ rfl rfl g3 rfl X D 42 HX.out rfl (by exact hzs.out) hone.out hsz.out ?_; intro wz hBz hmz)
            have hen := encode_calls D (decR ((⟨#[2, 0, 34]⟩ : ByteArray) ++ s) p) wz HD.out (HA.out wz hmz) (decR_rg hE p)
            rw [(enc_dec hE p).1, (enc_dec hE p).2] at hen
            have Hen := Lib.hid hen
            have hbz := hbw.trans (hmz.below hbw.size (fun x hx => by omega))
            have HBz := Lib.hid hBz
            clear hen hmz HX hbw hb HA hBz
            go_wp2_with (refine wpList_load_v rfl 42 _ rfl ⟨g3, 0, none⟩ rfl _ (hl.out _ HBz.out) ?_)
            refine Hen.out.mono ?_
            rintro e wf ⟨rfl, hbf⟩
            have hq4 : (((⟨#[2, 0, 34]⟩ : ByteArray) ++ s).toList == ((⟨#[2, 0, 34]⟩ : ByteArray) ++ s).toList) = true := by simp
            go_wp2_with fail
            go_roundw
            case rel => exact ⟨2, by omega, rfl, ⟨D, HBz.out.mod ((Mod.refl (fun _ => False) _).after hbf) (fun h => h), HD.out.size⟩, hbz.trans (hbf.mono hbz.size)⟩
            case measure => simp [intOf]
          · have ie : (decE ((⟨#[2, 0, 34]⟩ : ByteArray) ++ s) == (0 : Int)) = false := beq_eq_false_iff_ne.2 hE
            have ie2 : (decE ((⟨#[2, 0, 34]⟩ : ByteArray) ++ s) != (0 : Int)) = true := by rw [bne, ie]; rfl
            have hD0 := HD.out
            rw [decR_no rfl hE] at hD0
            have HS := Lib.hid (fun (wz : World) => (by
              have h1 := same_calls D zero53 zeroM zeroM wz hD0 zero_of (mks_none _) (mks_none _)
              rwa [zero_same] at h1 : Calls Try.prog 19 #[.agg D, .agg zero53] wz fun e w' => e = .returned (.bool true) ∧ Below wz.heap.size wz w'))
            clear hD0 HA
            go_upto_region 14 with (refine wpList_store_row2 rfl 42 _ _ rfl rfl g3 rfl X D 42 HX.out rfl (by exact hzs.out) hone.out hsz.out ?_; intro wz hBz hmz)
            have hbz := hbw.trans (hmz.below hbw.size (fun x hx => by omega))
            have HBz := Lib.hid hBz
            clear hmz HX hbw hb hBz
            go_wp2_with (first | (refine wpList_load_v rfl 42 _ rfl ⟨g3, 0, none⟩ rfl _ (hl.out _ HBz.out) ?_) | (refine wpList_build_v rfl 42 rfl _ (run_zero _) ?_))
            refine (HS.out _).mono ?_
            rintro e wf ⟨rfl, hbf⟩
            go_wp2_with fail
            go_roundw
            case rel => exact ⟨2, by omega, rfl, ⟨D, HBz.out.mod ((Mod.refl (fun _ => False) _).after hbf) (fun h => h), HD.out.size⟩, hbz.trans (hbf.mono hbz.size)⟩
            case measure => simp [intOf]

        · go_wp2_with fail
          go_ret
          exact ⟨rfl, hb⟩
    · have hmi : min (s.size : Int) 1000 = 1000 := by omega
      go_upto_region 10 with fail
      clear hq hq2 hmi
      generalize hS : s.extract 0 1000 = S
      have hS1 : S.size ≤ 1000 := by rw [← hS, ByteArray.size_extract]; omega
      clear hS
      have hb9 := hb2.trans (hb8.mono hb2.size)
      have hg4 : w.heap.size ≤ g3 := Nat.le_trans hb2.size hg3
      have hround : ∀ T : ByteArray, T.size ≤ 1003 → Hid (∀ wx, Calls Try.prog 18 #[.string T] wx (DecPost T wx)) := fun T hT => Lib.hid (fun wx => decode_calls T wx (by omega))
      have h53 : ∃ X, Blk w8 g3 X 42 ∧ X.size = 53 := ⟨C, hB8, HC.out.size⟩
      clear hB8 HC hb8 hsz
      go_wp2_with fail
      go_loopw [74] (fun i wr => ∃ k : Nat, k ≤ 2 ∧ i = .int .i64 k ∧ (∃ X, Blk wr g3 X 42 ∧ X.size = 53) ∧ Below w.heap.size w wr) (fun i _ => 2 - (intOf i).toNat)
      case atStart => exact ⟨0, by omega, rfl, h53, hb9⟩
      case round =>
        obtain ⟨k, hk8, rfl, ⟨X, hX, hXs⟩, hb⟩ := hrel
        obtain rfl | rfl | rfl : k = 0 ∨ k = 1 ∨ k = 2 := by omega
        · go_wp2_with (first | (refine wpList_ix rfl 59 _ _ rfl _ _ rfl rfl _ (run_ix0 _ _ _) ?_) | (refine wpList_ix rfl 59 _ _ rfl _ _ rfl rfl _ (run_ix1 _ _ _) ?_))
          refine ((hround (S) (by omega)).out _).mono ?_
          rintro e wd ⟨D, p, rfl, hbd, hD, hA, hp⟩
          have HX := Lib.hid (hX.mod ((Mod.refl (fun _ => False) _).after hbd) (fun h => h))
          have hXl := hX.lt
          have hbw := hb.trans (hbd.mono hb.size)
          have hzs := Lib.hid (show X.size = D.size by rw [hXs, hD.size])
          have hone := Lib.hid (msg_one hD)
          have hsz := Lib.hid (msg_size D hD.size)
          have HD := Lib.hid hD
          have HA := Lib.hid (fun (wz : World) (h : Mod (· = g3) wd wz) => hA.mod h (fun a ha e => by have := hp a (decR_p ha); omega))
          have hl := Lib.hid (fun (wz : World) (h : Blk wz g3 D 42) => run_load_row' (P := Try.prog) wz g3 42 D 42 _ h Try.underlying42 rfl hsz.out)
          clear hD hA hp hX hXs hbd
          by_cases hE : decE (S) = 0
          · rw [hE]
            go_upto_region 14 with (refine wpList_store_row2 rfl 42 _ _ rfl rfl g3 rfl X D 42 HX.out rfl (by exact hzs.out) hone.out hsz.out ?_; intro wz hBz hmz)
            have hen := encode_calls D (decR (S) p) wz HD.out (HA.out wz hmz) (decR_rg hE p)
            rw [(enc_dec hE p).1, (enc_dec hE p).2] at hen
            have Hen := Lib.hid hen
            have hbz := hbw.trans (hmz.below hbw.size (fun x hx => by omega))
            have HBz := Lib.hid hBz
            clear hen hmz HX hbw hb HA hBz
            go_wp2_with (refine wpList_load_v rfl 42 _ rfl ⟨g3, 0, none⟩ rfl _ (hl.out _ HBz.out) ?_)
            refine Hen.out.mono ?_
            rintro e wf ⟨rfl, hbf⟩
            have hq4 : ((S).toList == (S).toList) = true := by simp
            go_wp2_with fail
            go_roundw
            case rel => exact ⟨1, by omega, rfl, ⟨D, HBz.out.mod ((Mod.refl (fun _ => False) _).after hbf) (fun h => h), HD.out.size⟩, hbz.trans (hbf.mono hbz.size)⟩
            case measure => simp [intOf]
          · have ie : (decE (S) == (0 : Int)) = false := beq_eq_false_iff_ne.2 hE
            have ie2 : (decE (S) != (0 : Int)) = true := by rw [bne, ie]; rfl
            have hD0 := HD.out
            rw [decR_no rfl hE] at hD0
            have HS := Lib.hid (fun (wz : World) => (by
              have h1 := same_calls D zero53 zeroM zeroM wz hD0 zero_of (mks_none _) (mks_none _)
              rwa [zero_same] at h1 : Calls Try.prog 19 #[.agg D, .agg zero53] wz fun e w' => e = .returned (.bool true) ∧ Below wz.heap.size wz w'))
            clear hD0 HA
            go_upto_region 14 with (refine wpList_store_row2 rfl 42 _ _ rfl rfl g3 rfl X D 42 HX.out rfl (by exact hzs.out) hone.out hsz.out ?_; intro wz hBz hmz)
            have hbz := hbw.trans (hmz.below hbw.size (fun x hx => by omega))
            have HBz := Lib.hid hBz
            clear hmz HX hbw hb hBz
            go_wp2_with (first | (refine wpList_load_v rfl 42 _ rfl ⟨g3, 0, none⟩ rfl _ (hl.out _ HBz.out) ?_) | (refine wpList_build_v rfl 42 rfl _ (run_zero _) ?_))
            refine (HS.out _).mono ?_
            rintro e wf ⟨rfl, hbf⟩
            go_wp2_with fail
            go_roundw
            case rel => exact ⟨1, by omega, rfl, ⟨D, HBz.out.mod ((Mod.refl (fun _ => False) _).after hbf) (fun h => h), HD.out.size⟩, hbz.trans (hbf.mono hbz.size)⟩
            case measure => simp [intOf]

        · go_wp2_with (first | (refine wpList_ix rfl 59 _ _ rfl _ _ rfl rfl _ (run_ix0 _ _ _) ?_) | (refine wpList_ix rfl 59 _ _ rfl _ _ rfl rfl _ (run_ix1 _ _ _) ?_))
          refine ((hround ((⟨#[2, 0, 34]⟩ : ByteArray) ++ S) (by rw [ByteArray.size_append]; show 3 + _ ≤ _; omega)).out _).mono ?_
          rintro e wd ⟨D, p, rfl, hbd, hD, hA, hp⟩
          have HX := Lib.hid (hX.mod ((Mod.refl (fun _ => False) _).after hbd) (fun h => h))
          have hXl := hX.lt
          have hbw := hb.trans (hbd.mono hb.size)
          have hzs := Lib.hid (show X.size = D.size by rw [hXs, hD.size])
          have hone := Lib.hid (msg_one hD)
          have hsz := Lib.hid (msg_size D hD.size)
          have HD := Lib.hid hD
          have HA := Lib.hid (fun (wz : World) (h : Mod (· = g3) wd wz) => hA.mod h (fun a ha e => by have := hp a (decR_p ha); omega))
          have hl := Lib.hid (fun (wz : World) (h : Blk wz g3 D 42) => run_load_row' (P := Try.prog) wz g3 42 D 42 _ h Try.underlying42 rfl hsz.out)
          clear hD hA hp hX hXs hbd
          by_cases hE : decE ((⟨#[2, 0, 34]⟩ : ByteArray) ++ S) = 0
          · rw [hE]
            go_upto_region 14 with (refine wpList_store_row2 rfl 42 _ _ rfl rfl g3 rfl X D 42 HX.out rfl (by exact hzs.out) hone.out hsz.out ?_; intro wz hBz hmz)
            have hen := encode_calls D (decR ((⟨#[2, 0, 34]⟩ : ByteArray) ++ S) p) wz HD.out (HA.out wz hmz) (decR_rg hE p)
            rw [(enc_dec hE p).1, (enc_dec hE p).2] at hen
            have Hen := Lib.hid hen
            have hbz := hbw.trans (hmz.below hbw.size (fun x hx => by omega))
            have HBz := Lib.hid hBz
            clear hen hmz HX hbw hb HA hBz
            go_wp2_with (refine wpList_load_v rfl 42 _ rfl ⟨g3, 0, none⟩ rfl _ (hl.out _ HBz.out) ?_)
            refine Hen.out.mono ?_
            rintro e wf ⟨rfl, hbf⟩
            have hq4 : (((⟨#[2, 0, 34]⟩ : ByteArray) ++ S).toList == ((⟨#[2, 0, 34]⟩ : ByteArray) ++ S).toList) = true := by simp
            go_wp2_with fail
            go_roundw
            case rel => exact ⟨2, by omega, rfl, ⟨D, HBz.out.mod ((Mod.refl (fun _ => False) _).after hbf) (fun h => h), HD.out.size⟩, hbz.trans (hbf.mono hbz.size)⟩
            case measure => simp [intOf]
          · have ie : (decE ((⟨#[2, 0, 34]⟩ : ByteArray) ++ S) == (0 : Int)) = false := beq_eq_false_iff_ne.2 hE
            have ie2 : (decE ((⟨#[2, 0, 34]⟩ : ByteArray) ++ S) != (0 : Int)) = true := by rw [bne, ie]; rfl
            have hD0 := HD.out
            rw [decR_no rfl hE] at hD0
            have HS := Lib.hid (fun (wz : World) => (by
              have h1 := same_calls D zero53 zeroM zeroM wz hD0 zero_of (mks_none _) (mks_none _)
              rwa [zero_same] at h1 : Calls Try.prog 19 #[.agg D, .agg zero53] wz fun e w' => e = .returned (.bool true) ∧ Below wz.heap.size wz w'))
            clear hD0 HA
            go_upto_region 14 with (refine wpList_store_row2 rfl 42 _ _ rfl rfl g3 rfl X D 42 HX.out rfl (by exact hzs.out) hone.out hsz.out ?_; intro wz hBz hmz)
            have hbz := hbw.trans (hmz.below hbw.size (fun x hx => by omega))
            have HBz := Lib.hid hBz
            clear hmz HX hbw hb hBz
            go_wp2_with (first | (refine wpList_load_v rfl 42 _ rfl ⟨g3, 0, none⟩ rfl _ (hl.out _ HBz.out) ?_) | (refine wpList_build_v rfl 42 rfl _ (run_zero _) ?_))
            refine (HS.out _).mono ?_
            rintro e wf ⟨rfl, hbf⟩
            go_wp2_with fail
            go_roundw
            case rel => exact ⟨2, by omega, rfl, ⟨D, HBz.out.mod ((Mod.refl (fun _ => False) _).after hbf) (fun h => h), HD.out.size⟩, hbz.trans (hbf.mono hbz.size)⟩
            case measure => simp [intOf]

        · go_wp2_with fail
          go_ret
          exact ⟨rfl, hb⟩

set_option maxRecDepth 100000 in
theorem MsgBack_calls {H : Type} {enc : TypeId × Value → H} {W : World} {base : Nat} {v0 v1 : Value} {x0 x1 : DataW H} {p0 p1 : List MemPlace}
    (hv0 : Value.okWide Try.prog W .any base 28 v0) (t0 : DataW.Trod enc Try.prog W 0 (fun _ => true) true 28 v0 x0 p0)
    (hv1 : Value.okWide Try.prog W .any base 28 v1) (t1 : DataW.Trod enc Try.prog W 0 (fun _ => true) true 28 v1 x1 p1)
    (s : ByteArray) (hs : s.size ≤ maxLen) :
    Calls Try.prog 5 #[v0, v1, .string s] W fun e w' => e = .returned (.bool true) ∧ Below W.heap.size W w' := by
  obtain ⟨C0, d0, rfl, h0, r0, a0⟩ := open_draft hv0 t0
  obtain ⟨C1, d1, rfl, h1, r1, a1⟩ := open_draft hv1 t1
  exact MsgBack_walk C0 C1 d0 d1 s W h0 r0 a0 h1 r1 a1 hs
end Go.Proofs.Ytcipdimnbleljaa
