/-
  Layer 18 (msg): Decode.
-/
import Derived.Test.YtcipdimnbleljaaEn
import Derived.Test.YtcipdimnbleljaaWrr
namespace Go.Proofs.Ytcipdimnbleljaa
open Go.RowKit
open Extern.Stop (cell)

/-- what Decode answers -/
def decE (s : ByteArray) : Int :=
  if Frm.parE s ≠ 0 then Frm.parE s
  else if Frm.parK s < 1 ∨ 5 < Frm.parK s then 15
  else if (Frm.parB s).size < widS (Frm.parK s) (Frm.parB s) then 14
  else if widS (Frm.parK s) (Frm.parB s) < (Frm.parB s).size then 15
  else if mayB (decM (Frm.parK s) (Frm.parB s) none) = true then 0 else 15
def decR (s : ByteArray) (p : Option Addr) : MV := if decE s = 0 then decM (Frm.parK s) (Frm.parB s) p else zeroM
theorem mayB_p (k : Int) (b : ByteArray) (p q : Option Addr) : mayB (decM k b p) = mayB (decM k b q) := rfl

def zero53 : Array Value := #[.int .i64 0, .int .i64 0, .int .i64 0, .int .i64 0, .int .i64 0, .int .i64 0, .int .i64 0, .int .i64 0, .int .i64 0, .int .i64 0, .int .i64 0, .int .i64 0, .int .i64 0, .int .i64 0, .int .i64 0, .int .u8 0, .int .u8 0, .int .u8 0, .int .u8 0, .int .u8 0, .int .u8 0, .int .u8 0, .int .u8 0, .int .u8 0, .int .u8 0, .int .u8 0, .int .u8 0, .int .u8 0, .int .u8 0, .int .u8 0, .int .u8 0, .int .u8 0, .int .u8 0, .int .u8 0, .int .u8 0, .int .u8 0, .int .u8 0, .int .u8 0, .int .u8 0, .int .u8 0, .int .u8 0, .int .u8 0, .int .u8 0, .int .u8 0, .int .u8 0, .int .u8 0, .int .u8 0, .slice none 0 0, .int .u64 0, .int .u64 0, .int .i64 0, .int .i64 0, .int .u64 0]
theorem zero_of : MsgOf zero53 zeroM := by
  refine ⟨rfl, rfl, rfl, rfl, rfl, rfl, ?_, ?_, rfl, rfl, rfl, rfl, rfl, rfl, rfl⟩
  · intro i hi
    match i, hi with
    | 0, _ => rfl
    | 1, _ => rfl
    | 2, _ => rfl
    | 3, _ => rfl
    | 4, _ => rfl
    | 5, _ => rfl
    | 6, _ => rfl
    | 7, _ => rfl
    | 8, _ => rfl
    | 9, _ => rfl
    | i + 10, hi => exact absurd hi (by omega)
  · intro i hi
    match i, hi with
    | 0, _ => rfl
    | 1, _ => rfl
    | 2, _ => rfl
    | 3, _ => rfl
    | 4, _ => rfl
    | 5, _ => rfl
    | 6, _ => rfl
    | 7, _ => rfl
    | 8, _ => rfl
    | 9, _ => rfl
    | 10, _ => rfl
    | 11, _ => rfl
    | 12, _ => rfl
    | 13, _ => rfl
    | 14, _ => rfl
    | 15, _ => rfl
    | 16, _ => rfl
    | 17, _ => rfl
    | 18, _ => rfl
    | 19, _ => rfl
    | 20, _ => rfl
    | 21, _ => rfl
    | 22, _ => rfl
    | 23, _ => rfl
    | 24, _ => rfl
    | 25, _ => rfl
    | 26, _ => rfl
    | 27, _ => rfl
    | 28, _ => rfl
    | 29, _ => rfl
    | 30, _ => rfl
    | 31, _ => rfl
    | i + 32, hi => exact absurd hi (by omega)
theorem zero_rg : MsgRg zeroM := ⟨rg0, rg0, rg0, rg0, rg0, fun _ _ => rg0, (fun x hx => by cases hx), ug0, ug0, rg0, rg0, ug0⟩
theorem zero_marks (w : World) : MarksAt w zeroM := ⟨fun _ => rfl, (fun x hx => by cases hx), by show 0 ≤ _; omega, (fun a ha => by cases ha)⟩
theorem run_zero (w : World) : (Instr.build 42 #[]).run Try.prog w = .ok (.agg zero53) w := by kernel_rfl
theorem run_kind (k : Int) (w : World) : (Instr.build 42 #[(0, .int .i64 k)]).run Try.prog w = .ok (.agg (zero53.setIfInBounds 0 (.int .i64 k))) w := by kernel_rfl
theorem zero_one : ∀ v ∈ zero53.toList, v.oneCell' = true := by decide
theorem bare_of (k : Int) : Bare (zero53.setIfInBounds 0 (.int .i64 k)) k := by
  have h := zero_of
  refine ⟨rfl, rfl, rfl, rfl, rfl, rfl, ?_, ?_, rfl, rfl, rfl, rfl, rfl, rfl, rfl⟩
  · intro i hi
    rw [set_ne (by omega)]
    exact h.h5 i hi
  · intro i hi
    rw [set_ne (by omega)]
    exact h.h15 i hi
section
variable {P : Program}
theorem run_storeVar_row (w : World) (g : Nat) (ty : TypeId) (C cs : Array Value) (t : TypeId) (hB : Blk w g C t) (hs : C.size = cs.size) (h1 : ∀ v ∈ cs.toList, v.oneCell' = true) (hi : (P.info? ty).map (·.size) = some cs.size) :
    (storeVar ty ⟨g, 0, none⟩ (.agg cs)).run P w = .ok () (w.setRow g cs) := by
  have e := run_storeCells_at (P := P) g 0 t cs.toList 0 C w hB (by simp; omega) h1
  cases hq : P.info? ty with
  | none => simp [hq] at hi
  | some i =>
    have hs' : i.size = cs.size := by simpa [hq] using hi
    have e2 : w.setRow g (C.toList.take (0 + 0) ++ cs.toList ++ C.toList.drop (0 + 0 + cs.toList.length)).toArray = w.setRow g cs := by
      have : C.toList.drop (0 + 0 + cs.toList.length) = [] := List.drop_eq_nil_of_le (by simp; omega)
      rw [this]
      simp only [Nat.add_zero, List.take_zero, List.nil_append, List.append_nil, Array.toArray_toList]
    rw [e2] at e
    simp [storeVar, Sem.run_bind, sizeOf, typeInfo, hq, hs', Value.cells, e]
/-- a struct stored into its own variable: the variable's row is the struct -/
theorem wpList_store_row {ops : Array Oper} {rest : List Oper} {o : Oper} {a : Act} {w : World} {Q : Exit → Act → World → Prop} (hgd : o.guard = none) (ty : TypeId) (x y : Operand) (ho : o.op = .store ty x y) (hdst : o.dst = none)
    (g : Nat) (hx : a.eval x = .pointer (some ⟨g, 0, none⟩)) (C cs : Array Value) (t : TypeId) (hB : Blk w g C t) (hy : a.eval y = .agg cs) (hs : C.size = cs.size) (h1 : ∀ v ∈ cs.toList, v.oneCell' = true)
    (hi : (P.info? ty).map (·.size) = some cs.size)
    (h : ∀ w', Blk w' g cs t → Mod (· = g) w w' → wpList P ops Q rest a w') : wpList P ops Q (o :: rest) a w :=
  wpList_plain hgd fun K_ hK => by
    unfold Oper.wp execOp
    simp only [ho, hx, hy, Instr.storeAt, Instr.sureAddr, Sem.run_bind, Sem.run_pure, Result.andThen_ok, run_storeVar_row w g ty C cs t hB hs h1 hi]
    show K_ (a.put o.dst undef) _
    rw [hdst]
    exact hK _ _ (h _ (setRow_heap w g C cs t (0, 0) hB) ⟨rfl, rfl, rfl, by simp [World.setRow], fun k _ hk => setRow_other w g k cs hk⟩)
end
theorem msg_size (C : Array Value) (h : C.size = 53) : (Try.prog.info? 42).map (·.size) = some C.size := by rw [h]; kernel_rfl
theorem dec_rg (k : Int) (b : ByteArray) (p : Option Addr) (hk : I64 k) : MsgRg (decM k b p) := by
  have n1 : ∀ i, I64 (numAt b i 1) := fun i => by have := numAt_bd b i 1; unfold I64; omega
  have n2 : ∀ i, I64 (numAt b i 2) := fun i => by have := numAt_bd b i 2; unfold I64; omega
  have n4 : ∀ i, I64 (numAt b i 4) := fun i => by have := numAt_bd b i 4; unfold I64; omega
  have n8 : ∀ i, U64 (numAt b i 8) := fun i => by have := numAt_bd b i 8; unfold U64; omega
  have it : ∀ (c : Prop) [Decidable c] (x : Int), I64 x → I64 (if c then x else 0) := fun c _ x h => by split; exact h; exact rg0
  have ut : ∀ (c : Prop) [Decidable c] (x : Int), U64 x → U64 (if c then x else 0) := fun c _ x h => by split; exact h; exact ug0
  refine ⟨hk, n1 0, it _ _ (n1 1), it _ _ (n1 1), it _ _ (n4 2), ?_, ?_, ut _ _ (n8 2), ut _ _ (n8 10), it _ _ (n1 1), it _ _ ?_, ut _ _ (n8 3)⟩
  · intro i hi
    refine it _ _ ?_
    unfold rqW
    split
    · exact n2 _
    · split
      · exact n4 _
      · exact n2 _
  · intro x hx
    simp only [decM] at hx
    split at hx
    · rw [List.mem_map] at hx
      obtain ⟨j, _, rfl⟩ := hx
      exact n1 _
    · cases hx
  · have := numAt_bd b 2 1
    unfold I64
    omega

theorem results_cell_tmp {P : Program} {fn : Func} {p q : Tmp} {ty : TypeId} (h : fn.results = #[.cell p ty, .tmp q]) (tmps : Array Value) (w : World) (g : Nat) (t : TypeId) (cs : Array Value) (fr : Nat × Nat) (d : TypeDesc)
    (hp : tmps.getD p undef = .pointer (some ⟨g, 0, none⟩)) (hg : w.heap[g]? = some (.cells cs t fr))
    (hu : P.underlying ty = some d) (hd : (match d with | .struct _ | .array _ _ => true | _ => false) = true) (hi : (P.info? ty).map (·.size) = some cs.size) :
    (results fn tmps).run P w = .ok (.tuple #[.agg cs, tmps.getD q undef]) w := by
  have hp' : tmps[p]?.getD undef = .pointer (some ⟨g, 0, none⟩) := by simpa using hp
  simp [results, h, hp', asAddr, run_loadVar_row w g t ty cs fr d hg hu hd hi]
theorem wpList_build1_v {P : Program} {ops : Array Oper} {rest : List Oper} {o : Oper} {a : Act} {w : World} {Q : Exit → Act → World → Prop} (hgd : Region.wanted o (yielded ops a.tmps) = true) (ty : TypeId) (i : Nat) (x : Operand) (ho : o.op = .build ty #[(i, x)])
    (v1 : Value) (hx : a.eval x = v1) (v : Value) (hrun : (Instr.build ty #[(i, v1)]).run P w = .ok v w) (h : wpList P ops Q rest (a.put o.dst v) w) : wpList P ops Q (o :: rest) a w :=
  wpList_v hgd v (by unfold execOp; simp only [ho, hx, List.map_toArray, List.map_cons, List.map_nil, Sem.run_bind, hrun, Sem.run_pure, Result.andThen_ok]) h

def DecPost (s : ByteArray) (w : World) (e : Ending) (w' : World) : Prop :=
  ∃ C p, e = .returned (.tuple #[.agg C, .int .i64 (decE s)]) ∧ Below w.heap.size w w' ∧ MsgOf C (decR s p) ∧ MarksAt w' (decR s p)
theorem dec_zero {s : ByteArray} {w w' : World} {x : Int} {v : Value} (h : decE s = x ∧ x ≠ 0) (hb : Below w.heap.size w w') (hv : v = .int .i64 x) : DecPost s w (.returned (.tuple #[.agg zero53, v])) w' := by
  have e : decR s none = zeroM := by unfold decR; rw [if_neg (by rw [h.1]; exact h.2)]
  refine ⟨zero53, none, by rw [hv, h.1], hb, ?_, ?_⟩
  · rw [e]; exact zero_of
  · rw [e]; exact zero_marks _
theorem parK_bd (s : ByteArray) : 0 ≤ Frm.parK s ∧ Frm.parK s ≤ 255 := by
  unfold Frm.parK Frm.splK
  split
  · split
    · rename_i h
      have := (s[0]'(by simp [Frm.ok] at h; omega)).toNat_lt
      omega
    · omega
  · omega
theorem parB_size (s : ByteArray) : (Frm.parB s).size ≤ s.size := by
  unfold Frm.parB Frm.splB
  split
  · split
    · rw [ByteArray.size_extract]; omega
    · show 0 ≤ _; omega
  · show 0 ≤ _; omega
theorem msg_one {C : Array Value} {m : MV} (h : MsgOf C m) : ∀ v ∈ C.toList, v.oneCell' = true := by
  intro v hv
  obtain ⟨i, hi, rfl⟩ := List.getElem_of_mem hv
  have hs := h.size
  have hi' : i < C.size := by simpa using hi
  have key : ∀ u, C[i]? = some u → u.oneCell' = true → (C.toList[i]).oneCell' = true := by
    intro u hu h1
    rw [Array.getElem?_eq_getElem hi'] at hu
    have : C.toList[i] = u := by simpa using hu
    rw [this]; exact h1
  by_cases h15 : 15 ≤ i ∧ i < 47
  · have := h.h15 (i - 15) (by omega)
    rw [show 15 + (i - 15) = i by omega] at this
    exact key _ this rfl
  · by_cases h5 : 5 ≤ i ∧ i < 15
    · have := h.h5 (i - 5) (by omega)
      rw [show 5 + (i - 5) = i by omega] at this
      exact key _ this rfl
    · have : i = 0 ∨ i = 1 ∨ i = 2 ∨ i = 3 ∨ i = 4 ∨ i = 47 ∨ i = 48 ∨ i = 49 ∨ i = 50 ∨ i = 51 ∨ i = 52 := by omega
      rcases this with rfl | rfl | rfl | rfl | rfl | rfl | rfl | rfl | rfl | rfl | rfl
      · exact key _ h.h0 rfl
      · exact key _ h.h1 rfl
      · exact key _ h.h2 rfl
      · exact key _ h.h3 rfl
      · exact key _ h.h4 rfl
      · exact key _ h.h47 rfl
      · exact key _ h.h48 rfl
      · exact key _ h.h49 rfl
      · exact key _ h.h50 rfl
      · exact key _ h.h51 rfl
      · exact key _ h.h52 rfl
theorem zero_lit : zero53 = #[.int .i64 0, .int .i64 0, .int .i64 0, .int .i64 0, .int .i64 0, .int .i64 0, .int .i64 0, .int .i64 0, .int .i64 0, .int .i64 0, .int .i64 0, .int .i64 0, .int .i64 0, .int .i64 0, .int .i64 0, .int .u8 0, .int .u8 0, .int .u8 0, .int .u8 0, .int .u8 0, .int .u8 0, .int .u8 0, .int .u8 0, .int .u8 0, .int .u8 0, .int .u8 0, .int .u8 0, .int .u8 0, .int .u8 0, .int .u8 0, .int .u8 0, .int .u8 0, .int .u8 0, .int .u8 0, .int .u8 0, .int .u8 0, .int .u8 0, .int .u8 0, .int .u8 0, .int .u8 0, .int .u8 0, .int .u8 0, .int .u8 0, .int .u8 0, .int .u8 0, .int .u8 0, .int .u8 0, .slice none 0 0, .int .u64 0, .int .u64 0, .int .i64 0, .int .i64 0, .int .u64 0] := rfl

set_option maxHeartbeats 1000000 in
set_option maxRecDepth 100000 in
theorem decode_calls (s : ByteArray) (w : World) (hs : s.size ≤ 140737488351232) : Calls Try.prog 18 #[.string s] w (DecPost s w) := by
  have hkb := parK_bd s
  have hbs := parB_size s
  have hpc := Lib.hid (fun w => parse_calls s w (by unfold maxLen; omega))
  have hE : Hid (decE s = _) := Lib.hid (show decE s = if Frm.parE s ≠ 0 then Frm.parE s else if Frm.parK s < 1 ∨ 5 < Frm.parK s then 15 else if (Frm.parB s).size < widS (Frm.parK s) (Frm.parB s) then 14
      else if widS (Frm.parK s) (Frm.parB s) < (Frm.parB s).size then 15 else if mayB (decM (Frm.parK s) (Frm.parB s) none) = true then 0 else 15 from rfl)
  have hRr : Hid (∀ p, decE s = 0 → decR s p = decM (Frm.parK s) (Frm.parB s) p) := Lib.hid (fun p h => by unfold decR; rw [if_pos h])
  generalize Frm.parE s = pe at hpc hE
  generalize Frm.parK s = k at hpc hE hkb hRr
  generalize Frm.parB s = b at hpc hE hbs hRr
  go_enter Try.func18, Try.ntmps18
  go_upto_region 1 with fail
  refine wp_world (fun wx => Blk wx w.heap.size zero53 42 ∧ Below w.heap.size w wx) ⟨Blk.new w zero53 42, (Below.refl _ _).alloc (Nat.le_refl _) _⟩ ?_
  rintro w0 ⟨hB0, hb0⟩
  go_wp2_with fail
  refine (hpc.out _).mono ?_
  rintro e w1 ⟨rfl, hb1⟩
  have HB := Lib.hid (hB0.mod ((Mod.refl (fun _ => False) _).after hb1) (fun h => h))
  have hbN := hb0.trans (hb1.mono hb0.size)
  clear hB0 hb0 hb1 hpc
  by_cases hpe : pe = 0
  · subst hpe
    have hin := Lib.hid (fun w => within_calls (k - 1) 5 w)
    have hw1 : IntKind.i64.wrap (k - 1) = k - 1 := IntWalk.i64_in _ (by omega)
    by_cases hk5 : 1 ≤ k ∧ k ≤ 5
    · obtain ⟨hk1, hk2⟩ := hk5
      have e5 : inB (k - 1) 5 = true := decide_eq_true (by omega)
      rw [e5] at hin
      have hkk : k = 1 ∨ k = 2 ∨ k = 3 ∨ k = 4 ∨ k = 5 := by omega
      have hnew := Lib.hid (show zero53.size = (zero53.setIfInBounds 0 (.int .i64 k)).size by simp)
      have hone : Hid (∀ v ∈ (zero53.setIfInBounds 0 (.int .i64 k)).toList, v.oneCell' = true) := Lib.hid (by
        intro v hv
        rw [Array.toList_setIfInBounds] at hv
        rcases List.mem_or_eq_of_mem_set hv with h | h
        · exact zero_one v h
        · subst h; rfl)
      have hsz1 := Lib.hid (msg_size (zero53.setIfInBounds 0 (.int .i64 k)) (by simp; rfl))
      have hbr := Lib.hid (bare_of k)
      have hrk := Lib.hid (run_kind k)
      have HKK := Lib.hid hkk
      clear hkk
      generalize zero53.setIfInBounds 0 (.int .i64 k) = M0 at hnew hone hsz1 hbr hrk
      go_wp2_with fail
      refine (hin.out _).mono ?_
      rintro e w2 ⟨rfl, rfl⟩
      go_wp2_with (first | (refine wpList_build1_v rfl 42 0 _ rfl (.int .i64 k) rfl (.agg M0) (hrk.out _) ?_) | (refine wpList_store_new rfl 42 _ _ rfl rfl rfl _ M0 _ rfl (by exact hnew.out) hone.out hsz1.out ?_))
      refine (read_calls b _ (by omega)).mono ?_
      rintro e w3 ⟨rfl, hb3, hRd⟩
      have esz : (w1.alloc (.cells M0 42)).heap.size = w1.heap.size + 1 := by simp
      have hN3 := (Blk.new w1 M0 42).mod ((Mod.refl (fun _ => False) _).after hb3) (fun h => h)
      have hsz3 := hb3.size
      have HB3 := Lib.hid ((HB.out.alloc (.cells M0 42)).mod ((Mod.refl (fun _ => False) _).after hb3) (fun h => h))
      rw [esz] at hRd hb3 hsz3
      have hc3 := hRd.box.lt
      have hbN3 := (hbN.alloc hbN.size (.cells M0 42)).trans (hb3.mono (by have := hbN.size; omega))
      have hsN := hbN.size
      have hBl := HB.out.lt
      go_wp2_with fail
      refine (walk_r (w1.heap.size + 1) (w1.heap.size + 1 + 1) w1.heap.size b k M0 42 _ ⟨hRd.row.alloc _, hRd.box.alloc _, hRd.small, hRd.inn⟩ (hN3.alloc _) (by omega) (by omega) hbr.out HKK.out).mono ?_
      rintro e w4 ⟨rfl, hm4, hpost⟩
      obtain ⟨a', bad', C', hR4, hN4, hbad, hgood⟩ := hpost
      have hP4 := (Blk.new w3 #[.pointer (some ⟨w1.heap.size + 1, 0, none⟩)] 85).mod hm4 (by omega)
      have HB4 := Lib.hid ((HB3.out.alloc (.cells #[.pointer (some ⟨w1.heap.size + 1, 0, none⟩)] 85)).mod hm4 (by omega))
      have hbN4 := (hbN3.alloc hbN3.size (.cells #[.pointer (some ⟨w1.heap.size + 1, 0, none⟩)] 85)).trans (hm4.below (by simp; omega) (by rintro x (rfl | rfl) <;> omega))
      have k8 := hP4.cell (i := 0) rfl
      have hend := end_calls _ _ b a' bad' w4 hR4
      have hev : ∃ ev : Int, (if bad' = true then (14 : Int) else if a' < b.size then 15 else 0) = ev ∧ ev = if b.size < widS k b then 14 else if widS k b < b.size then 15 else 0 := by
        refine ⟨_, rfl, ?_⟩
        by_cases hlt : b.size < widS k b
        · rw [hbad hlt, if_pos rfl, if_pos hlt]
        · obtain ⟨e1, e2, _⟩ := hgood (by omega)
          rw [e1, e2, if_neg hlt, if_neg (by simp)]
      obtain ⟨ev, hev1, hev2⟩ := hev
      rw [hev1] at hend
      have Hend := Lib.hid hend
      replace hgood := Lib.hid hgood
      have HN4 := Lib.hid hN4
      have Hm4 := Lib.hid hm4
      replace hev2 := Lib.hid hev2
      clear hend hev1 hbad hR4 hN4 hP4 hm4
      go_wp2_with fail
      refine Hend.out.mono ?_
      rintro e w5 ⟨rfl, hb5⟩
      replace HB := Lib.hid (HB4.out.mod ((Mod.refl (fun _ => False) _).after hb5) (fun h => h))
      have HN := Lib.hid (HN4.out.mod ((Mod.refl (fun _ => False) _).after hb5) (fun h => h))
      have hbN5 := hbN4.trans (hb5.mono hbN4.size)
      clear HB3 HB4 HN4 Hend
      by_cases hv0 : ev = 0
      · subst hv0
        have hw := hev2.out
        have hsz : b.size = widS k b := by
          split at hw
          · omega
          · split at hw <;> omega
        clear hw
        obtain ⟨_, _, p, hM, hA, hp⟩ := hgood.out (by omega)
        have hA5 := marks_below hA hb5
        have hmy := Lib.hid (may_calls C' (decM k b p) w5 hM hA5 (dec_rg k b p ⟨by omega, by omega⟩))
        have hszC := Lib.hid (msg_size C' hM.size)
        have Hsz := Lib.hid hsz
        have HM := Lib.hid hM
        have HA5 := Lib.hid hA5
        have Hp := Lib.hid hp
        have HE2 : decE s = if mayB (decM k b p) = true then 0 else 15 := by
          rw [hE.out, if_neg (by simp), if_neg (by omega), if_neg (by omega), if_neg (by omega)]
          rfl
        replace HE2 := Lib.hid HE2
        clear hsz hM hA hA5 hp hgood
        by_cases hmay : mayB (decM k b p) = true
        · have HE0 := HE2.out
          rw [if_pos hmay] at HE0
          replace HE0 := Lib.hid HE0
          rw [hmay] at hmy
          go_wp2_with (first | (refine wpList_load_row rfl 42 _ rfl w1.heap.size rfl 42 C' (0, 0) _ HN.out Try.underlying42 rfl hszC.out ?_))
          refine hmy.out.mono ?_
          rintro e w6 ⟨rfl, hb6⟩
          replace HB := Lib.hid (HB.out.mod ((Mod.refl (fun _ => False) _).after hb6) (fun h => h))
          replace HN := Lib.hid (HN.out.mod ((Mod.refl (fun _ => False) _).after hb6) (fun h => h))
          have hbN6 := hbN5.trans (hb6.mono hbN5.size)
          have hone := Lib.hid (msg_one HM.out)
          have hsC := Lib.hid (show zero53.size = C'.size by rw [HM.out.size]; rfl)
          go_wp2_with (first | (refine wpList_load_row rfl 42 _ rfl w1.heap.size rfl 42 C' (0, 0) _ HN.out Try.underlying42 rfl hszC.out ?_) | (refine wpList_store_row rfl 42 _ _ rfl rfl w.heap.size rfl zero53 C' 42 HB.out rfl (by exact hsC.out) hone.out hszC.out ?_; intro wz hBz hmz))
          (try simp only [Exit.inBlock, Exit.then])
          refine bodyPost_ret (results_cell_tmp rfl _ _ w.heap.size _ _ _ _ rfl hBz Try.underlying42 rfl hszC.out) rfl ⟨C', p, by rw [HE0.out]; rfl, hbN6.trans (hmz.below hbN6.size (fun _ h => Nat.le_of_eq h.symm)), ?_, ?_⟩
          · rw [hRr.out p HE0.out]
            exact HM.out
          · rw [hRr.out p HE0.out]
            refine (marks_below HA5.out hb6).mod hmz ?_
            intro q hq
            have hpq : p = none ∨ p = some q := by
              simp only [decM] at hq
              split at hq
              · exact .inr hq
              · cases hq
            rcases hpq with h | h
            · rw [h] at hq; simp [decM] at hq
            · have := Hp.out q h
              simp at this
              omega
        · have HE0 := HE2.out
          rw [if_neg hmay] at HE0
          replace HE0 := Lib.hid HE0
          rw [Bool.not_eq_true _ |>.mp hmay] at hmy
          go_wp2_with (first | (refine wpList_load_row rfl 42 _ rfl w1.heap.size rfl 42 C' (0, 0) _ HN.out Try.underlying42 rfl hszC.out ?_))
          refine hmy.out.mono ?_
          rintro e w6 ⟨rfl, hb6⟩
          replace HB := Lib.hid (HB.out.mod ((Mod.refl (fun _ => False) _).after hb6) (fun h => h))
          have hbN6 := hbN5.trans (hb6.mono hbN5.size)
          go_wp2_with (first | (refine wpList_build_v rfl 42 rfl _ (run_zero _) ?_) | (refine wpList_store_row rfl 42 _ _ rfl rfl w.heap.size rfl zero53 zero53 42 HB.out rfl rfl zero_one (msg_size _ rfl) ?_; intro wz hBz hmz))
          (try simp only [Exit.inBlock, Exit.then])
          exact bodyPost_ret (results_cell_tmp rfl _ _ w.heap.size _ _ _ _ rfl hBz Try.underlying42 rfl (msg_size _ rfl)) rfl (dec_zero (by exact ⟨HE0.out, by decide⟩) (hbN6.trans (hmz.below hbN6.size (fun _ h => Nat.le_of_eq h.symm))) rfl)
      · have ib : (ev == (0 : Int)) = false := by simpa using hv0
        have ib2 : (ev != (0 : Int)) = true := by simpa using hv0
        have HE0 : decE s = ev := by
          have hw := hev2.out
          rw [hE.out, if_neg (by simp), if_neg (by omega)]
          split at hw
          · rename_i h1
            rw [if_pos h1, hw]
          · rename_i h1
            split at hw
            · rename_i h2
              rw [if_neg h1, if_pos h2, hw]
            · omega
        replace HE0 := Lib.hid HE0
        go_wp2_with (first | (refine wpList_build_v rfl 42 rfl _ (run_zero _) ?_) | (refine wpList_store_row rfl 42 _ _ rfl rfl w.heap.size rfl zero53 zero53 42 HB.out rfl rfl zero_one (msg_size _ rfl) ?_; intro wz hBz hmz))
        (try simp only [Exit.inBlock, Exit.then])
        exact bodyPost_ret (results_cell_tmp rfl _ _ w.heap.size _ _ _ _ rfl hBz Try.underlying42 rfl (msg_size _ rfl)) rfl (dec_zero (by exact ⟨HE0.out, hv0⟩) (hbN5.trans (hmz.below hbN5.size (fun _ h => Nat.le_of_eq h.symm))) rfl)
    · have e5 : inB (k - 1) 5 = false := decide_eq_false (by omega)
      rw [e5] at hin
      go_wp2_with fail
      refine (hin.out _).mono ?_
      rintro e w2 ⟨rfl, rfl⟩
      go_wp2_with (first | (refine wpList_build_v rfl 42 rfl _ (run_zero _) ?_) | (refine wpList_store_row rfl 42 _ _ rfl rfl w.heap.size rfl zero53 zero53 42 HB.out rfl rfl zero_one (msg_size _ rfl) ?_; intro wz hBz hmz))
      (try simp only [Exit.inBlock, Exit.then])
      exact bodyPost_ret (results_cell_tmp rfl _ _ w.heap.size _ _ _ _ rfl hBz Try.underlying42 rfl (msg_size _ rfl)) rfl (dec_zero (by rw [hE.out, if_neg (by simp), if_pos (by omega)]; exact ⟨rfl, by decide⟩) (hbN.trans (hmz.below hbN.size (fun _ h => Nat.le_of_eq h.symm))) rfl)
  · have ib : (pe == (0 : Int)) = false := by simpa using hpe
    have ib2 : (pe != (0 : Int)) = true := by simpa using hpe
    go_wp2_with (first | (refine wpList_build_v rfl 42 rfl _ (run_zero _) ?_) | (refine wpList_store_row rfl 42 _ _ rfl rfl w.heap.size rfl zero53 zero53 42 HB.out rfl rfl zero_one (msg_size _ rfl) ?_; intro wz hBz hmz))
    (try simp only [Exit.inBlock, Exit.then])
    exact bodyPost_ret (results_cell_tmp rfl _ _ w.heap.size _ _ _ _ rfl hBz Try.underlying42 rfl (msg_size _ rfl)) rfl (dec_zero (by rw [hE.out, if_pos hpe]; exact ⟨rfl, hpe⟩) (hbN.trans (hmz.below hbN.size (fun _ h => Nat.le_of_eq h.symm))) rfl)
end Go.Proofs.Ytcipdimnbleljaa
