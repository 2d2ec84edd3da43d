/-
  Layer 18 (msg): marks, with a writer and with a reader.
  Layer 18 (msg): walk, with a writer.
  Layer 18 (msg): walk, with a reader.
-/
import Derived.Test.YtcipdimnbleljaaRq
namespace Go.Proofs.Ytcipdimnbleljaa
open Go.RowKit

/-- 'copy(out, l)' where out was just made, and as long as l; an element has 'size' cells. -/
theorem copy_over {P : Program} (w : World) (dT sT ty elem : TypeId) (size n dCap sCap : Nat) (p : Option Addr) (cur : Array Value) (t : TypeId) (cs : List Value)
    (hu : P.underlying dT = some (.slice elem)) (hs : (P.info? elem).map (·.size) = some size) (hl : cs.length = n * size) (hcur : cur.size = n * size)
    (hsrc : ∀ j v, cs[j]? = some v → ∃ a, p = some a ∧ (w.alloc (.cells cur t)).cell? (a.add j) = some v) (hnil : p = none → n = 0) (h1 : ∀ v ∈ cs, v.oneCell' = true) :
    (Builtin.copy_ #[dT, sT] ty #[.slice (some ⟨w.heap.size, 0, none⟩) n dCap, .slice p n sCap]).run P (w.alloc (.cells cur t)) =
      .ok (goInt n) (w.alloc (.cells cs.toArray t)) := by
  have hst := run_storeCells_at P w.heap.size 0 t cs 0 cur (w.alloc (.cells cur t)) (World.alloc_heap_new w _) (by omega) h1
  simp only [Nat.add_zero, Nat.zero_add, List.take_zero, List.nil_append] at hst
  rw [List.drop_eq_nil_of_le (by simp; omega), List.append_nil, setRow_alloc] at hst
  cases hq : P.info? elem with
  | none => simp [hq] at hs
  | some i =>
    have hi : i.size = size := by simpa [hq] using hs
    cases p with
    | none =>
      obtain rfl := hnil rfl
      obtain rfl : cs = [] := List.eq_nil_of_length_eq_zero (by simpa using hl)
      simp [Builtin.copy_, run_underlying hu, Builtin.lenOf, Builtin.firstCells, sizeOf, typeInfo, hq, hst]
    | some a =>
      have hld := run_loadCells_list (P := P) (w.alloc (.cells cur t)) a cs (fun j v hj => by obtain ⟨a', ha, hv⟩ := hsrc j v hj; cases ha; exact hv)
      rw [hl] at hld
      have hm : Nat.min n n = n := Nat.min_self n
      simp [Builtin.copy_, run_underlying hu, Builtin.lenOf, Builtin.firstCells, sizeOf, typeInfo, hq, hi, hm, hld, hst]

/-- a mark's zero: the carrier, and the digest's 32 bytes -/
def mkZero : Value := .agg (#[.int .i64 0] ++ Array.replicate 32 (.int .u8 0))
theorem mark_info : (Try.prog.info? 65).map (fun i => (i.zero, i.size, i.bytes)) = some (some (.agg #[.int .i64 0, .int .u8 0, .int .u8 0, .int .u8 0, .int .u8 0, .int .u8 0, .int .u8 0, .int .u8 0, .int .u8 0, .int .u8 0, .int .u8 0, .int .u8 0, .int .u8 0, .int .u8 0, .int .u8 0, .int .u8 0, .int .u8 0, .int .u8 0, .int .u8 0, .int .u8 0, .int .u8 0, .int .u8 0, .int .u8 0, .int .u8 0, .int .u8 0, .int .u8 0, .int .u8 0, .int .u8 0, .int .u8 0, .int .u8 0, .int .u8 0, .int .u8 0, .int .u8 0]), 33, 40) := by kernel_rfl
theorem mkZero_is : mkZero = .agg #[.int .i64 0, .int .u8 0, .int .u8 0, .int .u8 0, .int .u8 0, .int .u8 0, .int .u8 0, .int .u8 0, .int .u8 0, .int .u8 0, .int .u8 0, .int .u8 0, .int .u8 0, .int .u8 0, .int .u8 0, .int .u8 0, .int .u8 0, .int .u8 0, .int .u8 0, .int .u8 0, .int .u8 0, .int .u8 0, .int .u8 0, .int .u8 0, .int .u8 0, .int .u8 0, .int .u8 0, .int .u8 0, .int .u8 0, .int .u8 0, .int .u8 0, .int .u8 0, .int .u8 0] := by rfl
/-- a row of n marks that was just made -/
def mkMade (n : Nat) : Array Value := madeCells mkZero.cells (n * 33)
theorem mkMade_size (n : Nat) : (mkMade n).size = n * 33 := size_madeCells _ _
theorem run_make_marks (n : Nat) (hn : n < 256) (w : World) :
    (Instr.makeSlice 38 (.int .i64 (n : Int)) (.int .i64 (n : Int))).run Try.prog w = .ok (.slice (some ⟨w.heap.size, 0, none⟩) n n) (w.alloc (.cells (mkMade n) 65)) := by
  have h := mark_info
  cases hq : Try.prog.info? 65 with
  | none => rw [hq] at h; simp at h
  | some i =>
    rw [hq, ← mkZero_is] at h
    simp only [Option.map_some, Option.some.injEq, Prod.mk.injEq] at h
    have hr := run_make (P := Try.prog) w 38 65 i mkZero Try.underlying38 hq h.1 .i64 .i64 n n (by omega) (by omega) (by rw [h.2.2]; omega) (by omega)
    rw [h.2.1] at hr
    exact hr

/-- the bytes of marks -/
def mkStr (s : ByteArray) (mc : Nat → Int) (md : Nat → List Int) : Nat → ByteArray
  | 0 => s
  | k + 1 => addN (mkStr s mc md k) (mc k) 1 ++ strOfNums (md k)
theorem mkStr_size (s : ByteArray) (mc : Nat → Int) (md : Nat → List Int) (n k : Nat) (hk : k ≤ n) (hd : ∀ k, k < n → (md k).length = 32) : (mkStr s mc md k).size = s.size + 33 * k := by
  induction k with
  | zero => simp [mkStr]
  | succ k ih => rw [mkStr, ByteArray.size_append, addN_size, strOfNums_size, ih (by omega), hd k (by omega)]; omega

set_option maxHeartbeats 2000000 in
set_option maxRecDepth 100000 in
theorem marks_w (wb nb o n cap : Nat) (p : Option Addr) (s : ByteArray) (C : Array Value) (t : TypeId) (cs : List Value) (mc : Nat → Int) (md : Nat → List Int) (w : World) (hs : s.size ≤ 140737488341000) (hn8 : n < 256)
    (hw : Blk w wb #[.string s] 75) (hn : Blk w nb C t) (hc : C[o]? = some (.slice p n cap)) (hne : nb ≠ wb)
    (hl : cs.length = n * 33) (hsrc : ∀ j v, cs[j]? = some v → ∃ a, p = some a ∧ a.block ≠ wb ∧ w.cell? (a.add j) = some v) (hnil : p = none → n = 0) (h1 : ∀ v ∈ cs, v.oneCell' = true)
    (hmc : ∀ k, k < n → cs[k * 33]? = some (.int .i64 (mc k)) ∧ 0 ≤ mc k ∧ mc k < 256)
    (hml : ∀ k, k < n → (md k).length = 32) (hmb : ∀ k, k < n → ∀ x ∈ md k, 0 ≤ x ∧ x < 256) (hmd : ∀ k, k < n → ∀ i, i < 32 → cs[k * 33 + 1 + i]? = some (.int .u8 ((md k).getD i 0))) :
    Calls Try.prog 43 #[.iface 73 (.pointer (some ⟨wb, 0, none⟩)), .pointer (some ⟨nb, o, none⟩)] w fun e w' =>
      e = .returned (.tuple #[]) ∧ Mod (fun x => x = wb ∨ x = nb) w w' ∧ Blk w' wb #[.string (mkStr (addN s n 1) mc md n)] 75 ∧ ∃ v, Blk w' nb (C.setIfInBounds o v) t := by
  have c0 := hn.cell hc
  have hwl := hw.lt
  have hnl := hn.lt
  obtain ⟨s1, hs1⟩ : ∃ s1, addN s n 1 = s1 := ⟨_, rfl⟩
  have hs1z : s1.size = s.size + 1 := by rw [← hs1, addN_size]
  rw [hs1]
  replace hs1 := Lib.hid hs1
  have hmk := fun wx => run_make_marks n hn8 wx
  go_enter Try.func43, Try.ntmps43
  go_wp2_with fail
  refine (whole_w 1 (.inl rfl) (by omega) wb w.heap.size 0 s n #[.int .i64 n] 3 _ (by omega) (by omega) (by omega) (hw.alloc _) (Blk.new w _ _) rfl (by omega)).mono ?_
  rintro e w1 ⟨rfl, hm1, hW1⟩
  have hB1 := (Blk.new w #[.int .i64 n] 3).mod hm1 (by omega)
  have hN1 := (hn.alloc _).mod hm1 hne
  have c1 := hB1.cell (i := 0) rfl
  have c2 := hN1.cell hc
  have hnl1 := hN1.lt
  have hwl1 := hW1.lt
  have c3 := (hN1.alloc (.cells (mkMade n) 65)).cell hc
  have hcp := copy_over (P := Try.prog) w1 38 38 3 65 33 n n cap p (mkMade n) 65 cs Try.underlying38 (by kernel_rfl) hl (mkMade_size n) (fun j v hj => by
    obtain ⟨a, ha, hab, hv⟩ := hsrc j v hj
    refine ⟨a, ha, cellA _ ?_⟩
    have hadd : (a.add j).block = a.block := by unfold Addr.add; split <;> rfl
    exact hm1.cell_of (by rw [hadd]; exact hab) (cellA _ hv)) hnil h1
  go_wp2
  have hO := Blk.new w1 cs.toArray 65
  replace hN1 := hN1.alloc (.cells cs.toArray 65)
  replace hW1 := hW1.alloc (.cells cs.toArray 65)
  have hM1 : Mod (fun x => x = wb ∨ x = nb) w (w1.alloc (.cells cs.toArray 65)) := (hm1.from_alloc.widen (fun k h => .inl h)).alloc _
  rw [show s ++ strOfNums (be (n : Int) 1) = s1 from hs1.out] at hW1
  have hsz : ∀ k, k ≤ n → (mkStr s1 mc md k).size ≤ 140737488350000 := fun k hk => by rw [mkStr_size s1 mc md n k hk hml]; omega
  clear hcp c3 c2 c1 hB1 hmk c0 hm1 hs1 hsrc hnil hl h1
  obtain ⟨W2, hW2⟩ : ∃ W2, w1.alloc (.cells cs.toArray 65) = W2 := ⟨_, rfl⟩
  obtain ⟨ob, hob⟩ : ∃ ob, w1.heap.size = ob := ⟨_, rfl⟩
  rw [hW2, hob] at hO
  rw [hW2] at hN1 hW1 hM1
  have hobw : ob ≠ wb := by omega
  have hobn : ob ≠ nb := by omega
  simp only [hW2, hob]
  clear hW2 hob hnl1 hwl1
  go_loopw [22] (fun i wr => ∃ k : Nat, k ≤ n ∧ i = .int .i64 k ∧ Mod (· = wb) W2 wr ∧ Blk wr wb #[.string (mkStr s1 mc md k)] 75) (fun i _ => n - (intOf i).toNat)
  case atStart => exact ⟨0, by omega, rfl, Mod.refl _ _, hW1⟩
  case round =>
    obtain ⟨k, hk, rfl, hM, hW⟩ := hrel
    have hOr := hO.mod hM hobw
    by_cases hkn : k < n
    · obtain ⟨hck, hc0, hc1⟩ := hmc k hkn
      have hx := Lib.hid (whole_w 1 (.inl rfl) (by omega) wb ob (k * 33) (mkStr s1 mc md k) (mc k) cs.toArray _ wr (by have := hsz k hk; omega) hc0 (by omega) hW hOr (by simpa using hck) hobw)
      have hdk : ∀ i, i < 32 → (cs.toArray)[k * 33 + 1 + i]? = some (.int .u8 ((md k).getD i 0)) := fun i hi => by simpa using hmd k hkn i hi
      go_wp2_with fail
      refine hx.out.mono ?_
      rintro e w2 ⟨rfl, hm2, hW2⟩
      have hO2 := hOr.mod hm2 hobw
      have hy := Lib.hid (digest_w wb ob (k * 33 + 1) (addN (mkStr s1 mc md k) (mc k) 1) (md k) cs.toArray _ w2 (by rw [addN_size]; have := hsz k hk; omega) (hml k hkn) (hmb k hkn) hW2 hO2 hdk hobw)
      go_wp2_with fail
      refine hy.out.mono ?_
      rintro e w3 ⟨rfl, hm3, hW3⟩
      go_wp2
      go_roundw
      case rel => exact ⟨k + 1, by omega, by go_num, (hM.trans hm2).trans hm3, hW3⟩
      case measure => simp [intOf]; omega
    · obtain rfl : k = n := by omega
      have hNr := hN1.mod hM hne
      have d0 := hNr.cell hc
      have d1 := hNr.froz o
      go_wp2
      exact bodyPost_end (v := .tuple #[]) (by simp [results, Try.results43, go_sem]) rfl ⟨rfl, (hM1.trans (hM.widen fun _ h => .inl h)).setCell (fun _ => .inr rfl) _, hW.other (Ne.symm hne) _, _, hNr.set _ _⟩

/-- nothing goes over out of a slice that is nil. -/
theorem copy_nil {P : Program} (w : World) (dT sT ty elem : TypeId) (size n dCap : Nat) (d : Option Addr)
    (hu : P.underlying dT = some (.slice elem)) (hs : (P.info? elem).map (·.size) = some size) :
    (Builtin.copy_ #[dT, sT] ty #[.slice d n dCap, .slice none 0 0]).run P w = .ok (goInt 0) w := by
  cases hq : P.info? elem with
  | none => simp [hq] at hs
  | some i =>
    have hm : Nat.min 0 n = 0 := Nat.zero_min n
    cases d <;> simp [Builtin.copy_, run_underlying hu, Builtin.lenOf, Builtin.firstCells, sizeOf, typeInfo, hq, hm, storeCells]

theorem mkMade_get (n i : Nat) (h : i < n * 33) : (mkMade n)[i]? = some (mkZero.cells[i % 33]!) := by
  unfold mkMade madeCells
  rw [Array.getElem?_map, Array.getElem?_range, if_pos h]
  have e : mkZero.cells.size = 33 := by rw [mkZero_is]; rfl
  rw [e]; rfl
theorem mkMade_c (n k : Nat) (h : k < n) : (mkMade n)[k * 33]? = some (.int .i64 0) := by
  rw [mkMade_get n _ (by omega), mkZero_is]
  have e : k * 33 % 33 = 0 := by omega
  rw [e]; rfl
theorem mkMade_d (n k i : Nat) (h : k < n) (hi : i < 32) : (mkMade n)[k * 33 + 1 + i]? = some (.int .u8 0) := by
  rw [mkMade_get n _ (by omega), mkZero_is]
  have e : (k * 33 + 1 + i) % 33 = i + 1 := by omega
  rw [e]
  have : ∀ i, i < 32 → (Value.cells (.agg #[.int .i64 0, .int .u8 0, .int .u8 0, .int .u8 0, .int .u8 0, .int .u8 0, .int .u8 0, .int .u8 0, .int .u8 0, .int .u8 0, .int .u8 0, .int .u8 0, .int .u8 0, .int .u8 0, .int .u8 0, .int .u8 0, .int .u8 0, .int .u8 0, .int .u8 0, .int .u8 0, .int .u8 0, .int .u8 0, .int .u8 0, .int .u8 0, .int .u8 0, .int .u8 0, .int .u8 0, .int .u8 0, .int .u8 0, .int .u8 0, .int .u8 0, .int .u8 0, .int .u8 0]))[i + 1]! = .int .u8 0 := by
    intro i hi
    match i, hi with
    | 0, _ | 1, _ | 2, _ | 3, _ | 4, _ | 5, _ | 6, _ | 7, _ | 8, _ | 9, _ | 10, _ | 11, _ | 12, _ | 13, _ | 14, _ | 15, _ => rfl
    | i + 32, h => exact absurd h (by omega)
    | 16, _ | 17, _ | 18, _ | 19, _ | 20, _ | 21, _ | 22, _ | 23, _ | 24, _ | 25, _ | 26, _ | 27, _ | 28, _ | 29, _ | 30, _ | 31, _ => rfl
  rw [this i hi]

/-- where the reader stands behind the number of marks, and k marks -/
def mrA (s : ByteArray) (a : Nat) (bad : Bool) : Nat → Nat × Bool
  | 0 => (rdAt s a bad 1, rdBad s a bad 1)
  | k + 1 => dgA s (rdAt s (mrA s a bad k).1 (mrA s a bad k).2 1) (rdBad s (mrA s a bad k).1 (mrA s a bad k).2 1) 32
/-- the row of the marks, when k of them are read -/
def mrRow (s : ByteArray) (a : Nat) (bad : Bool) (n : Nat) : Nat → Array Value
  | 0 => mkMade n
  | k + 1 => dgRow s (rdAt s (mrA s a bad k).1 (mrA s a bad k).2 1) (rdBad s (mrA s a bad k).1 (mrA s a bad k).2 1) ((mrRow s a bad n k).setIfInBounds (k * 33) (.int .i64 (rdNum s (mrA s a bad k).1 (mrA s a bad k).2 1))) (k * 33 + 1) 32
theorem mrRow_size (s : ByteArray) (a : Nat) (bad : Bool) (n k : Nat) : (mrRow s a bad n k).size = n * 33 := by
  induction k with
  | zero => exact mkMade_size n
  | succ k ih => rw [mrRow, dgRow_size, Array.size_setIfInBounds, ih]
theorem mrRow_ge (s : ByteArray) (a : Nat) (bad : Bool) (n k i : Nat) (h : k * 33 ≤ i) : (mrRow s a bad n k)[i]? = (mkMade n)[i]? := by
  induction k with
  | zero => rfl
  | succ k ih => rw [mrRow, dgRow_get, if_neg (by omega), Array.getElem?_setIfInBounds_ne (by omega), ih (by omega)]

set_option maxHeartbeats 2000000 in
set_option maxRecDepth 100000 in
theorem marks_r (b c nb o : Nat) (s : ByteArray) (a : Nat) (bad : Bool) (C : Array Value) (t : TypeId) (w : World)
    (h : Rd w b c s a bad) (hn : Blk w nb C t) (hc : C[o]? = some (.slice none 0 0)) (hne : nb ≠ b) (hcb : c ≠ nb) :
    Calls Try.prog 43 #[.iface 85 (.agg #[.pointer (some ⟨b, 0, none⟩)]), .pointer (some ⟨nb, o, none⟩)] w fun e w' =>
      e = .returned (.tuple #[]) ∧ Mod (fun x => x = b ∨ x = nb) w w' ∧ Rd w' b c s (mrA s a bad (rdNum s a bad 1).toNat).1 (mrA s a bad (rdNum s a bad 1).toNat).2 ∧
      ∃ ob, w.heap.size ≤ ob ∧ Blk w' nb (C.setIfInBounds o (.slice (some ⟨ob, 0, none⟩) (rdNum s a bad 1).toNat (rdNum s a bad 1).toNat)) t ∧ Blk w' ob (mrRow s a bad (rdNum s a bad 1).toNat (rdNum s a bad 1).toNat) 65 := by
  have c0 := hn.cell hc
  have hbl := h.row.lt
  have hcl := h.box.lt
  have hnl := hn.lt
  obtain ⟨n, hnn⟩ : ∃ n : Nat, (rdNum s a bad 1).toNat = n := ⟨_, rfl⟩
  have hbd := rdNum_bd s a bad 1
  have hvn : rdNum s a bad 1 = (n : Int) := by omega
  have hn8 : n < 256 := by omega
  rw [hnn]
  replace hvn := Lib.hid hvn
  clear hnn hbd
  have hmk := fun wx => run_make_marks n hn8 wx
  have hcp := fun wx d => copy_nil (P := Try.prog) wx 38 38 3 65 33 n n d Try.underlying38 (by kernel_rfl)
  have hr0 : Rd (w.alloc (.cells #[.int .i64 0] 3)) b c s a bad := h.mod ((Mod.refl (fun _ => False) _).alloc _) (by simp) (by simp)
  go_enter Try.func43, Try.ntmps43
  go_wp2_with fail
  refine (whole_r 1 (.inl rfl) (by omega) b c w.heap.size 0 s a bad 0 #[.int .i64 0] 3 _ (by omega) (by omega) hr0 (Blk.new w _ _) rfl (by omega) (by omega)).mono ?_
  rintro e w1 ⟨rfl, hm1, hR1, hB1⟩
  have hN1 := (hn.alloc _).mod hm1 (by omega)
  have hB1' : Blk w1 w.heap.size #[.int .i64 n] 3 := by rw [← hvn.out]; exact hB1
  have c1 := hB1'.cell (i := 0) rfl
  have c2 := hN1.cell hc
  have hnl1 := hN1.lt
  have hbl1 := hR1.row.lt
  have hcl1 := hR1.box.lt
  have hwsz := hm1.from_alloc.size
  have c3 := (hN1.alloc (.cells (mkMade n) 65)).cell hc
  go_wp2
  have hO := Blk.new w1 (mkMade n) 65
  have hM1 : Mod (fun x => x = b ∨ x = nb) w (w1.alloc (.cells (mkMade n) 65)) := ((hm1.widen (T := fun x => (x = b ∨ x = nb) ∨ x = w.heap.size) (by intro k h; omega)).from_new).alloc _
  replace hN1 := hN1.alloc (.cells (mkMade n) 65)
  replace hR1 : Rd (w1.alloc (.cells (mkMade n) 65)) b c s (mrA s a bad 0).1 (mrA s a bad 0).2 := hR1.mod ((Mod.refl (fun _ => False) _).alloc _) (by simp) (by simp)
  clear hcp c3 c2 c1 hB1 hB1' hmk c0 hm1 hr0
  obtain ⟨W2, hW2⟩ : ∃ W2, w1.alloc (.cells (mkMade n) 65) = W2 := ⟨_, rfl⟩
  obtain ⟨ob, hob⟩ : ∃ ob, w1.heap.size = ob := ⟨_, rfl⟩
  rw [hW2, hob] at hO
  rw [hW2] at hN1 hR1 hM1
  have hobw : ob ≠ b := by omega
  have hobc : c ≠ ob := by omega
  have hobn : nb ≠ ob := by omega
  have hobs : w.heap.size ≤ ob := by omega
  simp only [hW2, hob]
  clear hW2 hob hnl1 hbl1 hcl1 hwsz
  go_loopw [22] (fun i wr => ∃ k : Nat, k ≤ n ∧ i = .int .i64 k ∧ Mod (fun x => x = b ∨ x = ob) W2 wr ∧ Rd wr b c s (mrA s a bad k).1 (mrA s a bad k).2 ∧ Blk wr ob (mrRow s a bad n k) 65) (fun i _ => n - (intOf i).toNat)
  case atStart => exact ⟨0, by omega, rfl, Mod.refl _ _, hR1, hO⟩
  case round =>
    obtain ⟨k, hk, rfl, hM, hR, hOr⟩ := hrel
    by_cases hkn : k < n
    · have hck : (mrRow s a bad n k)[k * 33]? = some (.int .i64 0) := by rw [mrRow_ge _ _ _ _ _ _ (Nat.le_refl _), mkMade_c n k hkn]
      have hx := Lib.hid (whole_r 1 (.inl rfl) (by omega) b c ob (k * 33) s _ _ 0 _ _ wr (by omega) (by omega) hR hOr hck hobw hobc)
      go_wp2_with fail
      refine hx.out.mono ?_
      rintro e w2 ⟨rfl, hm2, hR2, hO2⟩
      have hy := Lib.hid (digest_r b c ob (k * 33 + 1) s _ _ _ _ w2 hR2 hO2 (fun i hi => ⟨0, by rw [Array.getElem?_setIfInBounds_ne (by omega), mrRow_ge _ _ _ _ _ _ (by omega), mkMade_d n k i hkn hi], by omega, by omega⟩) hobw hobc)
      go_wp2_with fail
      refine hy.out.mono ?_
      rintro e w3 ⟨rfl, hm3, hR3, hO3⟩
      go_wp2
      go_roundw
      case rel => exact ⟨k + 1, by omega, by go_num, (hM.trans hm2).trans hm3, hR3, hO3⟩
      case measure => simp [intOf]; omega
    · obtain rfl : k = n := by omega
      have hNr := hN1.mod hM (by omega)
      have d0 := hNr.cell hc
      have d1 := hNr.froz o
      go_wp2
      refine bodyPost_end (v := .tuple #[]) (by simp [results, Try.results43, go_sem]) rfl ⟨rfl, ?_, ⟨hR.row.other (Ne.symm hne) _, hR.box.other hcb _, hR.small, hR.inn⟩, ob, hobs, hNr.set _ _, hOr.other (Ne.symm hobn) _⟩
      have hM' : Mod (fun x => x = b ∨ x = nb ∨ x = ob) w wr := (hM1.widen (fun k h => by omega)).trans (hM.widen (fun k h => by omega))
      have hM2 : Mod (fun x => x = b ∨ x = nb) w wr := hM'.mono (fun k hk h => by omega)
      exact hM2.setCell (fun _ => .inr rfl) _
end Go.Proofs.Ytcipdimnbleljaa
namespace Go.Proofs.Ytcipdimnbleljaa
open Go.RowKit

theorem ahead_w (wb : Nat) (w : World) : (nilAhead 252 73 (.pointer (some ⟨wb, 0, none⟩)) "consign/msg.num").run Try.prog w = .ok (some false) w := by kernel_rfl
theorem ahead_r (rb : Nat) (w : World) : (nilAhead 252 85 (.agg #[.pointer (some ⟨rb, 0, none⟩)]) "consign/msg.num").run Try.prog w = .ok (some false) w := by kernel_rfl


set_option maxHeartbeats 1000000 in
set_option maxRecDepth 100000 in
theorem walk_w1 (wb nb : Nat) (s : ByteArray) (round req reserve : Int) (rq : Nat → Int) (C : Array Value) (t : TypeId) (w : World) (hs : s.size ≤ 140737488340000)
    (hw : Blk w wb #[.string s] 75) (hn : Blk w nb C t) (hne : nb ≠ wb)
    (h0 : C[0]? = some (.int .i64 1)) (h1 : C[1]? = some (.int .i64 round)) (b1 : 0 ≤ round ∧ round < 256)
    (h3 : C[3]? = some (.int .i64 req)) (h4 : C[4]? = some (.int .i64 reserve)) (h5 : ∀ i, i < 10 → C[5 + i]? = some (.int .i64 (rq i)))
    (b3 : 0 ≤ req ∧ req < 256) (b4 : 0 ≤ reserve ∧ reserve < 4294967296) (b5 : ∀ i, i < 10 → 0 ≤ rq i ∧ rq i < 256 ^ rqW i) :
    Calls Try.prog 28 #[.iface 73 (.pointer (some ⟨wb, 0, none⟩)), .pointer (some ⟨nb, 0, none⟩)] w fun e w' =>
      e = .returned (.tuple #[]) ∧ Mod (fun x => x = wb ∨ x = nb) w w' ∧ Blk w' wb #[.string (rqStr (addN (addN (addN s round 1) req 1) reserve 4) rq 10)] 75 ∧ ∃ C', Blk w' nb C' t ∧ C'[0]? = some (.int .i64 1) := by
  have hm := method_w wb
  have hq := ahead_w wb
  have hwl := hw.lt
  have hnl := hn.lt
  go_enter Try.func28, Try.ntmps28
  go_wp2_with fail
  refine (whole_w 1 (.inl rfl) (by omega) wb nb 1 s round C t _ (by omega) b1.1 b1.2 hw hn h1 hne).mono ?_
  rintro e w1 ⟨rfl, hm1, hW1⟩
  have hN1 := hn.mod hm1 hne
  have c0 := hN1.cell h0
  go_wp2_with fail
  refine (whole_w 1 (.inl rfl) (by omega) wb nb 3 _ req C t _ (by simp only [ByteArray.size_append, strOfNums_size, be_length]; omega) b3.1 b3.2 hW1 hN1 h3 hne).mono ?_
  rintro e w2 ⟨rfl, hm2, hW2⟩
  have hN2 := hN1.mod hm2 hne
  go_wp2_with fail
  refine (whole_w 4 (.inr (.inr (.inl rfl))) (by omega) wb nb 4 _ reserve C t _ (by simp only [ByteArray.size_append, strOfNums_size, be_length]; omega) b4.1 b4.2 hW2 hN2 h4 hne).mono ?_
  rintro e w3 ⟨rfl, hm3, hW3⟩
  have hN3 := hN2.mod hm3 hne
  go_wp2_with fail
  refine (request_w wb nb 5 _ rq C t _ (by simp only [ByteArray.size_append, strOfNums_size, be_length]; omega) b5 hW3 hN3 h5 hne).mono ?_
  rintro e w4 ⟨rfl, hm4, hW4⟩
  have hN4 := hN3.mod hm4 hne
  go_wp2
  exact bodyPost_end (v := .tuple #[]) (by simp [results, Try.results28, go_sem]) rfl ⟨rfl, (((hm1.trans hm2).trans hm3).trans hm4).widen (fun _ h => .inl h), hW4, _, hN4, h0⟩

set_option maxHeartbeats 1000000 in
set_option maxRecDepth 100000 in
theorem walk_w2 (wb nb : Nat) (s : ByteArray) (round carrier : Int) (dg : List Int) (C : Array Value) (t : TypeId) (w : World) (hs : s.size ≤ 140737488340000)
    (hw : Blk w wb #[.string s] 75) (hn : Blk w nb C t) (hne : nb ≠ wb)
    (h0 : C[0]? = some (.int .i64 2)) (h1 : C[1]? = some (.int .i64 round)) (b1 : 0 ≤ round ∧ round < 256)
    (h2 : C[2]? = some (.int .i64 carrier)) (h15 : ∀ i, i < 32 → C[15 + i]? = some (.int .u8 (dg.getD i 0)))
    (b2 : 0 ≤ carrier ∧ carrier < 256) (l15 : dg.length = 32) (b15 : ∀ x ∈ dg, 0 ≤ x ∧ x < 256) :
    Calls Try.prog 28 #[.iface 73 (.pointer (some ⟨wb, 0, none⟩)), .pointer (some ⟨nb, 0, none⟩)] w fun e w' =>
      e = .returned (.tuple #[]) ∧ Mod (fun x => x = wb ∨ x = nb) w w' ∧ Blk w' wb #[.string (addN (addN s round 1) carrier 1 ++ strOfNums dg)] 75 ∧ ∃ C', Blk w' nb C' t ∧ C'[0]? = some (.int .i64 2) := by
  have hm := method_w wb
  have hq := ahead_w wb
  have hwl := hw.lt
  have hnl := hn.lt
  go_enter Try.func28, Try.ntmps28
  go_wp2_with fail
  refine (whole_w 1 (.inl rfl) (by omega) wb nb 1 s round C t _ (by omega) b1.1 b1.2 hw hn h1 hne).mono ?_
  rintro e w1 ⟨rfl, hm1, hW1⟩
  have hN1 := hn.mod hm1 hne
  have c0 := hN1.cell h0
  go_wp2_with fail
  refine (whole_w 1 (.inl rfl) (by omega) wb nb 2 _ carrier C t _ (by simp only [ByteArray.size_append, strOfNums_size, be_length]; omega) b2.1 b2.2 hW1 hN1 h2 hne).mono ?_
  rintro e w2 ⟨rfl, hm2, hW2⟩
  have hN2 := hN1.mod hm2 hne
  go_wp2_with fail
  refine (digest_w wb nb 15 _ dg C t _ (by simp only [ByteArray.size_append, strOfNums_size, be_length]; omega) l15 b15 hW2 hN2 h15 hne).mono ?_
  rintro e w3 ⟨rfl, hm3, hW3⟩
  have hN3 := hN2.mod hm3 hne
  go_wp2
  exact bodyPost_end (v := .tuple #[]) (by simp [results, Try.results28, go_sem]) rfl ⟨rfl, ((hm1.trans hm2).trans hm3).widen (fun _ h => .inl h), hW3, _, hN3, h0⟩

set_option maxHeartbeats 1000000 in
set_option maxRecDepth 100000 in
theorem walk_w3 (wb nb : Nat) (s : ByteArray) (round : Int) (n cap : Nat) (p : Option Addr) (cs : List Value) (mc : Nat → Int) (md : Nat → List Int) (C : Array Value) (t : TypeId) (w : World) (hs : s.size ≤ 140737488340000)
    (hw : Blk w wb #[.string s] 75) (hn : Blk w nb C t) (hne : nb ≠ wb)
    (h0 : C[0]? = some (.int .i64 3)) (h1 : C[1]? = some (.int .i64 round)) (b1 : 0 ≤ round ∧ round < 256)
    (h47 : C[47]? = some (.slice p n cap)) (hn8 : n < 256)
    (hl : cs.length = n * 33) (hsrc : ∀ j v, cs[j]? = some v → ∃ a, p = some a ∧ a.block ≠ wb ∧ w.cell? (a.add j) = some v) (hnil : p = none → n = 0) (ho : ∀ v ∈ cs, v.oneCell' = true)
    (hmc : ∀ k, k < n → cs[k * 33]? = some (.int .i64 (mc k)) ∧ 0 ≤ mc k ∧ mc k < 256)
    (hml : ∀ k, k < n → (md k).length = 32) (hmb : ∀ k, k < n → ∀ x ∈ md k, 0 ≤ x ∧ x < 256) (hmd : ∀ k, k < n → ∀ i, i < 32 → cs[k * 33 + 1 + i]? = some (.int .u8 ((md k).getD i 0))) :
    Calls Try.prog 28 #[.iface 73 (.pointer (some ⟨wb, 0, none⟩)), .pointer (some ⟨nb, 0, none⟩)] w fun e w' =>
      e = .returned (.tuple #[]) ∧ Mod (fun x => x = wb ∨ x = nb) w w' ∧ Blk w' wb #[.string (mkStr (addN (addN s round 1) n 1) mc md n)] 75 ∧ ∃ C', Blk w' nb C' t ∧ C'[0]? = some (.int .i64 3) := by
  have hm := method_w wb
  have hq := ahead_w wb
  have hwl := hw.lt
  have hnl := hn.lt
  go_enter Try.func28, Try.ntmps28
  go_wp2_with fail
  refine (whole_w 1 (.inl rfl) (by omega) wb nb 1 s round C t _ (by omega) b1.1 b1.2 hw hn h1 hne).mono ?_
  rintro e w1 ⟨rfl, hm1, hW1⟩
  have hN1 := hn.mod hm1 hne
  have c0 := hN1.cell h0
  go_wp2_with fail
  have hsrc1 : ∀ j v, cs[j]? = some v → ∃ a, p = some a ∧ a.block ≠ wb ∧ w1.cell? (a.add j) = some v := fun j v hj => by
    obtain ⟨a, ha, hab, hv⟩ := hsrc j v hj
    have hadd : (a.add j).block = a.block := by unfold Addr.add; split <;> rfl
    exact ⟨a, ha, hab, hm1.cell_of (by rw [hadd]; exact hab) hv⟩
  refine (marks_w wb nb 47 n cap p _ C t cs mc md _ (by simp only [ByteArray.size_append, strOfNums_size, be_length]; omega) hn8 hW1 hN1 h47 hne hl hsrc1 hnil ho hmc hml hmb hmd).mono ?_
  rintro e w2 ⟨rfl, hm2, hW2, v, hN2⟩
  go_wp2
  exact bodyPost_end (v := .tuple #[]) (by simp [results, Try.results28, go_sem]) rfl ⟨rfl, (hm1.widen (fun _ h => .inl h)).trans hm2, hW2, _, hN2, by rw [Array.getElem?_setIfInBounds_ne (by omega)]; exact h0⟩

set_option maxHeartbeats 1000000 in
set_option maxRecDepth 100000 in
theorem walk_w4 (wb nb : Nat) (s : ByteArray) (round carrier bid nonce : Int) (C : Array Value) (t : TypeId) (w : World) (hs : s.size ≤ 140737488340000)
    (hw : Blk w wb #[.string s] 75) (hn : Blk w nb C t) (hne : nb ≠ wb)
    (h0 : C[0]? = some (.int .i64 4)) (h1 : C[1]? = some (.int .i64 round)) (b1 : 0 ≤ round ∧ round < 256)
    (h2 : C[2]? = some (.int .i64 carrier)) (h48 : C[48]? = some (.int .u64 bid)) (h49 : C[49]? = some (.int .u64 nonce))
    (b2 : 0 ≤ carrier ∧ carrier < 256) (b48 : 0 ≤ bid ∧ bid < 18446744073709551616) (b49 : 0 ≤ nonce ∧ nonce < 18446744073709551616) :
    Calls Try.prog 28 #[.iface 73 (.pointer (some ⟨wb, 0, none⟩)), .pointer (some ⟨nb, 0, none⟩)] w fun e w' =>
      e = .returned (.tuple #[]) ∧ Mod (fun x => x = wb ∨ x = nb) w w' ∧ Blk w' wb #[.string (addN (addN (addN (addN s round 1) carrier 1) bid 8) nonce 8)] 75 ∧ ∃ C', Blk w' nb C' t ∧ C'[0]? = some (.int .i64 4) := by
  have hm := method_w wb
  have hq := ahead_w wb
  have hwl := hw.lt
  have hnl := hn.lt
  go_enter Try.func28, Try.ntmps28
  go_wp2_with fail
  refine (whole_w 1 (.inl rfl) (by omega) wb nb 1 s round C t _ (by omega) b1.1 b1.2 hw hn h1 hne).mono ?_
  rintro e w1 ⟨rfl, hm1, hW1⟩
  have hN1 := hn.mod hm1 hne
  have c0 := hN1.cell h0
  go_wp2_with fail
  refine (whole_w 1 (.inl rfl) (by omega) wb nb 2 _ carrier C t _ (by simp only [ByteArray.size_append, strOfNums_size, be_length]; omega) b2.1 b2.2 hW1 hN1 h2 hne).mono ?_
  rintro e w2 ⟨rfl, hm2, hW2⟩
  have hN2 := hN1.mod hm2 hne
  go_wp2_with fail
  go_region_with (go_at_call 81; refine (wnum_calls 8 (.inr (.inr (.inr rfl))) wb nb 48 _ bid C t _ (by simp only [ByteArray.size_append, strOfNums_size, be_length]; omega) b48.1 b48.2 hW2.drew hN2.drew h48).mono ?_; rintro e w3 ⟨rfl, hm3, hW3⟩)
  have hN3 := hN2.drew.mod hm3 hne
  go_wp2_with fail
  go_region_with (go_at_call 81; refine (wnum_calls 8 (.inr (.inr (.inr rfl))) wb nb 49 _ nonce C t _ (by simp only [ByteArray.size_append, strOfNums_size, be_length]; omega) b49.1 b49.2 hW3.drew hN3.drew h49).mono ?_; rintro e w4 ⟨rfl, hm4, hW4⟩)
  have hN4 := hN3.drew.mod hm4 hne
  go_wp2
  exact bodyPost_end (v := .tuple #[]) (by simp [results, Try.results28, go_sem]) rfl ⟨rfl, (((hm1.trans hm2).drew.trans hm3).drew.trans hm4).widen (fun _ h => .inl h), hW4, _, hN4, h0⟩

set_option maxHeartbeats 1000000 in
set_option maxRecDepth 100000 in
theorem walk_w5 (wb nb : Nat) (s : ByteArray) (round state winner price : Int) (C : Array Value) (t : TypeId) (w : World) (hs : s.size ≤ 140737488340000)
    (hw : Blk w wb #[.string s] 75) (hn : Blk w nb C t) (hne : nb ≠ wb)
    (h0 : C[0]? = some (.int .i64 5)) (h1 : C[1]? = some (.int .i64 round)) (b1 : 0 ≤ round ∧ round < 256)
    (h50 : C[50]? = some (.int .i64 state)) (h51 : C[51]? = some (.int .i64 winner)) (h52 : C[52]? = some (.int .u64 price))
    (b50 : 0 ≤ state ∧ state < 256) (b51 : -1 ≤ winner ∧ winner < 255) (b52 : 0 ≤ price ∧ price < 18446744073709551616) :
    Calls Try.prog 28 #[.iface 73 (.pointer (some ⟨wb, 0, none⟩)), .pointer (some ⟨nb, 0, none⟩)] w fun e w' =>
      e = .returned (.tuple #[]) ∧ Mod (fun x => x = wb ∨ x = nb) w w' ∧ Blk w' wb #[.string (addN (addN (addN (addN s round 1) state 1) (winner + 1) 1) price 8)] 75 ∧ ∃ C', Blk w' nb C' t ∧ C'[0]? = some (.int .i64 5) := by
  have hm := method_w wb
  have hq := ahead_w wb
  have hwl := hw.lt
  have hnl := hn.lt
  go_enter Try.func28, Try.ntmps28
  go_wp2_with fail
  refine (whole_w 1 (.inl rfl) (by omega) wb nb 1 s round C t _ (by omega) b1.1 b1.2 hw hn h1 hne).mono ?_
  rintro e w1 ⟨rfl, hm1, hW1⟩
  have hN1 := hn.mod hm1 hne
  have c0 := hN1.cell h0
  go_wp2_with fail
  refine (whole_w 1 (.inl rfl) (by omega) wb nb 50 _ state C t _ (by simp only [ByteArray.size_append, strOfNums_size, be_length]; omega) b50.1 b50.2 hW1 hN1 h50 hne).mono ?_
  rintro e w2 ⟨rfl, hm2, hW2⟩
  have hN2 := hN1.mod hm2 hne
  have c51 := hN2.cell h51
  have hwl2 := hW2.lt
  have hnl2 := hN2.lt
  go_wp2_with fail
  refine (whole_w 1 (.inl rfl) (by omega) wb w2.heap.size 0 _ (winner + 1) #[.int .i64 (winner + 1)] 3 _ (by simp only [ByteArray.size_append, strOfNums_size, be_length]; omega) (by omega) (by omega) (hW2.alloc _) (Blk.new w2 _ _) rfl (by omega)).mono ?_
  rintro e w3 ⟨rfl, hm3, hW3⟩
  have hB3 := (Blk.new w2 #[.int .i64 (winner + 1)] 3).mod hm3 (by omega)
  have hN3 := (hN2.alloc (.cells #[.int .i64 (winner + 1)] 3)).mod hm3 hne
  have c3 := hB3.cell (i := 0) rfl
  have d51 := hN3.cell h51
  have e51 := hN3.froz 51
  have hsub : winner + 1 - 1 = winner := by omega
  have hss := setCell_same hN3 h51
  go_wp2_with fail
  go_region_with (go_at_call 81; refine (wnum_calls 8 (.inr (.inr (.inr rfl))) wb nb 52 _ price C t _ (by simp only [ByteArray.size_append, strOfNums_size, be_length]; omega) b52.1 b52.2 hW3.drew hN3.drew h52).mono ?_; rintro e w4 ⟨rfl, hm4, hW4⟩)
  have hN4 := hN3.drew.mod hm4 hne
  go_wp2
  exact bodyPost_end (v := .tuple #[]) (by simp [results, Try.results28, go_sem]) rfl ⟨rfl, (((hm1.trans hm2).trans hm3.from_alloc).drew.trans hm4).widen (fun _ h => .inl h), hW4, _, hN4, h0⟩
end Go.Proofs.Ytcipdimnbleljaa
namespace Go.Proofs.Ytcipdimnbleljaa
open Go.RowKit

attribute [local irreducible] rqA rqRow dgA dgRow mrA mrRow rdAt rdBad rdNum

/-- what the reader does, to where it stands, and to the message's row -/
abbrev RdX := (Nat × Bool) × Array Value
def rdI (s : ByteArray) (k i : Nat) (x : RdX) : RdX := ((rdAt s x.1.1 x.1.2 k, rdBad s x.1.1 x.1.2 k), x.2.setIfInBounds i (.int .i64 (rdNum s x.1.1 x.1.2 k)))
def rdU (s : ByteArray) (k i : Nat) (x : RdX) : RdX := ((rdAt s x.1.1 x.1.2 k, rdBad s x.1.1 x.1.2 k), x.2.setIfInBounds i (.int .u64 (rdNum s x.1.1 x.1.2 k)))
def rdW (s : ByteArray) (k i : Nat) (x : RdX) : RdX := ((rdAt s x.1.1 x.1.2 k, rdBad s x.1.1 x.1.2 k), x.2.setIfInBounds i (.int .i64 (rdNum s x.1.1 x.1.2 k - 1)))
def rdRq (s : ByteArray) (o : Nat) (x : RdX) : RdX := (rqA s x.1.1 x.1.2 10, rqRow s x.1.1 x.1.2 x.2 o 10)
def rdDg (s : ByteArray) (o : Nat) (x : RdX) : RdX := (dgA s x.1.1 x.1.2 32, dgRow s x.1.1 x.1.2 x.2 o 32)

set_option maxHeartbeats 1000000 in
set_option maxRecDepth 100000 in
theorem walk_r1 (b c nb : Nat) (s : ByteArray) (a : Nat) (bad : Bool) (C : Array Value) (t : TypeId) (w : World)
    (h : Rd w b c s a bad) (hn : Blk w nb C t) (hne : nb ≠ b) (hcb : c ≠ nb)
    (h0 : C[0]? = some (.int .i64 1)) (h1 : C[1]? = some (.int .i64 0))
    (h3 : C[3]? = some (.int .i64 0)) (h4 : C[4]? = some (.int .i64 0)) (h5 : ∀ i, i < 10 → C[5 + i]? = some (.int .i64 0)) :
    Calls Try.prog 28 #[.iface 85 (.agg #[.pointer (some ⟨b, 0, none⟩)]), .pointer (some ⟨nb, 0, none⟩)] w fun e w' =>
      e = .returned (.tuple #[]) ∧ Mod (fun x => x = b ∨ x = nb) w w' ∧ (fun X : RdX => Rd w' b c s X.1.1 X.1.2 ∧ Blk w' nb X.2 t) (rdRq s 5 (rdI s 4 4 (rdI s 1 3 (rdI s 1 1 ((a, bad), C))))) := by
  have hm := method_r b
  have hq := ahead_r b
  have hbl := h.row.lt
  have hcl := h.box.lt
  have hnl := hn.lt
  go_enter Try.func28, Try.ntmps28
  go_wp2_with fail
  refine (whole_r 1 (.inl rfl) (by omega) b c nb 1 s a bad 0 C t _ (by omega) (by omega) h hn h1 hne hcb).mono ?_
  rintro e w1 ⟨rfl, hm1, hR1, hN1⟩
  have c0 := hN1.cell (i := 0) (v := .int .i64 1) (by rw [Array.getElem?_setIfInBounds_ne (by omega)]; exact h0)
  go_wp2_with fail
  refine (whole_r 1 (.inl rfl) (by omega) b c nb 3 s _ _ 0 _ t _ (by omega) (by omega) hR1 hN1 (by rw [Array.getElem?_setIfInBounds_ne (show 1 ≠ 3 by omega)]; exact h3) hne hcb).mono ?_
  rintro e w2 ⟨rfl, hm2, hR2, hN2⟩
  go_wp2_with fail
  refine (whole_r 4 (.inr (.inr (.inl rfl))) (by omega) b c nb 4 s _ _ 0 _ t _ (by omega) (by omega) hR2 hN2 (by rw [Array.getElem?_setIfInBounds_ne (show 3 ≠ 4 by omega), Array.getElem?_setIfInBounds_ne (show 1 ≠ 4 by omega)]; exact h4) hne hcb).mono ?_
  rintro e w3 ⟨rfl, hm3, hR3, hN3⟩
  go_wp2_with fail
  refine (request_r b c nb 5 s _ _ _ t _ hR3 hN3 (fun i hi => ⟨0, by rw [Array.getElem?_setIfInBounds_ne (show 4 ≠ 5 + i by omega), Array.getElem?_setIfInBounds_ne (show 3 ≠ 5 + i by omega), Array.getElem?_setIfInBounds_ne (show 1 ≠ 5 + i by omega)]; exact h5 i hi, by omega, by omega⟩) hne hcb).mono ?_
  rintro e w4 ⟨rfl, hm4, hR4, hN4⟩
  go_wp2
  exact bodyPost_end (v := .tuple #[]) (by simp [results, Try.results28, go_sem]) rfl ⟨rfl, ((hm1.trans hm2).trans hm3).trans hm4, hR4, hN4⟩

set_option maxHeartbeats 1000000 in
set_option maxRecDepth 100000 in
theorem walk_r2 (b c nb : Nat) (s : ByteArray) (a : Nat) (bad : Bool) (C : Array Value) (t : TypeId) (w : World)
    (h : Rd w b c s a bad) (hn : Blk w nb C t) (hne : nb ≠ b) (hcb : c ≠ nb)
    (h0 : C[0]? = some (.int .i64 2)) (h1 : C[1]? = some (.int .i64 0))
    (h2 : C[2]? = some (.int .i64 0)) (h15 : ∀ i, i < 32 → C[15 + i]? = some (.int .u8 0)) :
    Calls Try.prog 28 #[.iface 85 (.agg #[.pointer (some ⟨b, 0, none⟩)]), .pointer (some ⟨nb, 0, none⟩)] w fun e w' =>
      e = .returned (.tuple #[]) ∧ Mod (fun x => x = b ∨ x = nb) w w' ∧ (fun X : RdX => Rd w' b c s X.1.1 X.1.2 ∧ Blk w' nb X.2 t) (rdDg s 15 (rdI s 1 2 (rdI s 1 1 ((a, bad), C)))) := by
  have hm := method_r b
  have hq := ahead_r b
  have hbl := h.row.lt
  have hcl := h.box.lt
  have hnl := hn.lt
  go_enter Try.func28, Try.ntmps28
  go_wp2_with fail
  refine (whole_r 1 (.inl rfl) (by omega) b c nb 1 s a bad 0 C t _ (by omega) (by omega) h hn h1 hne hcb).mono ?_
  rintro e w1 ⟨rfl, hm1, hR1, hN1⟩
  have c0 := hN1.cell (i := 0) (v := .int .i64 2) (by rw [Array.getElem?_setIfInBounds_ne (by omega)]; exact h0)
  go_wp2_with fail
  refine (whole_r 1 (.inl rfl) (by omega) b c nb 2 s _ _ 0 _ t _ (by omega) (by omega) hR1 hN1 (by rw [Array.getElem?_setIfInBounds_ne (show 1 ≠ 2 by omega)]; exact h2) hne hcb).mono ?_
  rintro e w2 ⟨rfl, hm2, hR2, hN2⟩
  go_wp2_with fail
  refine (digest_r b c nb 15 s _ _ _ t _ hR2 hN2 (fun i hi => ⟨0, by rw [Array.getElem?_setIfInBounds_ne (show 2 ≠ 15 + i by omega), Array.getElem?_setIfInBounds_ne (show 1 ≠ 15 + i by omega)]; exact h15 i hi, by omega, by omega⟩) hne hcb).mono ?_
  rintro e w3 ⟨rfl, hm3, hR3, hN3⟩
  go_wp2
  exact bodyPost_end (v := .tuple #[]) (by simp [results, Try.results28, go_sem]) rfl ⟨rfl, (hm1.trans hm2).trans hm3, hR3, hN3⟩

set_option maxHeartbeats 1000000 in
set_option maxRecDepth 100000 in
theorem walk_r3 (b c nb : Nat) (s : ByteArray) (a : Nat) (bad : Bool) (C : Array Value) (t : TypeId) (w : World)
    (h : Rd w b c s a bad) (hn : Blk w nb C t) (hne : nb ≠ b) (hcb : c ≠ nb)
    (h0 : C[0]? = some (.int .i64 3)) (h1 : C[1]? = some (.int .i64 0))
    (h47 : C[47]? = some (.slice none 0 0)) :
    Calls Try.prog 28 #[.iface 85 (.agg #[.pointer (some ⟨b, 0, none⟩)]), .pointer (some ⟨nb, 0, none⟩)] w fun e w' =>
      e = .returned (.tuple #[]) ∧ Mod (fun x => x = b ∨ x = nb) w w' ∧ (fun X : RdX => ∃ ob N, N = (rdNum s X.1.1 X.1.2 1).toNat ∧ w.heap.size ≤ ob ∧ Rd w' b c s (mrA s X.1.1 X.1.2 N).1 (mrA s X.1.1 X.1.2 N).2 ∧
        Blk w' nb (X.2.setIfInBounds 47 (.slice (some ⟨ob, 0, none⟩) N N)) t ∧ Blk w' ob (mrRow s X.1.1 X.1.2 N N) 65) (rdI s 1 1 ((a, bad), C)) := by
  have hm := method_r b
  have hq := ahead_r b
  have hbl := h.row.lt
  have hcl := h.box.lt
  have hnl := hn.lt
  go_enter Try.func28, Try.ntmps28
  go_wp2_with fail
  refine (whole_r 1 (.inl rfl) (by omega) b c nb 1 s a bad 0 C t _ (by omega) (by omega) h hn h1 hne hcb).mono ?_
  rintro e w1 ⟨rfl, hm1, hR1, hN1⟩
  have c0 := hN1.cell (i := 0) (v := .int .i64 3) (by rw [Array.getElem?_setIfInBounds_ne (by omega)]; exact h0)
  go_wp2_with fail
  refine (marks_r b c nb 47 s _ _ _ t _ hR1 hN1 (by rw [Array.getElem?_setIfInBounds_ne (show 1 ≠ 47 by omega)]; exact h47) hne hcb).mono ?_
  rintro e w2 ⟨rfl, hm2, hR2, ob, hob, hN2, hO2⟩
  have hsz := hm1.size
  go_wp2
  exact bodyPost_end (v := .tuple #[]) (by simp [results, Try.results28, go_sem]) rfl ⟨rfl, hm1.trans hm2, ob, _, rfl, by omega, hR2, hN2, hO2⟩

set_option maxHeartbeats 1000000 in
set_option maxRecDepth 100000 in
theorem walk_r4 (b c nb : Nat) (s : ByteArray) (a : Nat) (bad : Bool) (C : Array Value) (t : TypeId) (w : World)
    (h : Rd w b c s a bad) (hn : Blk w nb C t) (hne : nb ≠ b) (hcb : c ≠ nb)
    (h0 : C[0]? = some (.int .i64 4)) (h1 : C[1]? = some (.int .i64 0))
    (h2 : C[2]? = some (.int .i64 0)) (h48 : C[48]? = some (.int .u64 0)) (h49 : C[49]? = some (.int .u64 0)) :
    Calls Try.prog 28 #[.iface 85 (.agg #[.pointer (some ⟨b, 0, none⟩)]), .pointer (some ⟨nb, 0, none⟩)] w fun e w' =>
      e = .returned (.tuple #[]) ∧ Mod (fun x => x = b ∨ x = nb) w w' ∧ (fun X : RdX => Rd w' b c s X.1.1 X.1.2 ∧ Blk w' nb X.2 t) (rdU s 8 49 (rdU s 8 48 (rdI s 1 2 (rdI s 1 1 ((a, bad), C))))) := by
  have hm := method_r b
  have hq := ahead_r b
  have hbl := h.row.lt
  have hcl := h.box.lt
  have hnl := hn.lt
  go_enter Try.func28, Try.ntmps28
  go_wp2_with fail
  refine (whole_r 1 (.inl rfl) (by omega) b c nb 1 s a bad 0 C t _ (by omega) (by omega) h hn h1 hne hcb).mono ?_
  rintro e w1 ⟨rfl, hm1, hR1, hN1⟩
  have c0 := hN1.cell (i := 0) (v := .int .i64 4) (by rw [Array.getElem?_setIfInBounds_ne (by omega)]; exact h0)
  go_wp2_with fail
  refine (whole_r 1 (.inl rfl) (by omega) b c nb 2 s _ _ 0 _ t _ (by omega) (by omega) hR1 hN1 (by rw [Array.getElem?_setIfInBounds_ne (show 1 ≠ 2 by omega)]; exact h2) hne hcb).mono ?_
  rintro e w2 ⟨rfl, hm2, hR2, hN2⟩
  go_wp2_with fail
  go_region_with (go_at_call 84; refine (rnum_calls 8 (.inr (.inr (.inr rfl))) b c nb 48 s _ _ 0 _ t _ (hR2.mod (Mod.refl (fun _ => False) _).drew (by simp) (by simp)) hN2.drew (by rw [Array.getElem?_setIfInBounds_ne (show 2 ≠ 48 by omega), Array.getElem?_setIfInBounds_ne (show 1 ≠ 48 by omega)]; exact h48) hne hcb).mono ?_; rintro e w3 ⟨rfl, hm3, hR3, hN3⟩)
  go_wp2_with fail
  go_region_with (go_at_call 84; refine (rnum_calls 8 (.inr (.inr (.inr rfl))) b c nb 49 s _ _ 0 _ t _ (hR3.mod (Mod.refl (fun _ => False) _).drew (by simp) (by simp)) hN3.drew (by rw [Array.getElem?_setIfInBounds_ne (show 48 ≠ 49 by omega), Array.getElem?_setIfInBounds_ne (show 2 ≠ 49 by omega), Array.getElem?_setIfInBounds_ne (show 1 ≠ 49 by omega)]; exact h49) hne hcb).mono ?_; rintro e w4 ⟨rfl, hm4, hR4, hN4⟩)
  go_wp2
  exact bodyPost_end (v := .tuple #[]) (by simp [results, Try.results28, go_sem]) rfl ⟨rfl, ((hm1.trans hm2).drew.trans hm3).drew.trans hm4, hR4, hN4⟩

set_option maxHeartbeats 1000000 in
set_option maxRecDepth 100000 in
theorem walk_r5 (b c nb : Nat) (s : ByteArray) (a : Nat) (bad : Bool) (C : Array Value) (t : TypeId) (w : World)
    (h : Rd w b c s a bad) (hn : Blk w nb C t) (hne : nb ≠ b) (hcb : c ≠ nb)
    (h0 : C[0]? = some (.int .i64 5)) (h1 : C[1]? = some (.int .i64 0))
    (h50 : C[50]? = some (.int .i64 0)) (h51 : C[51]? = some (.int .i64 0)) (h52 : C[52]? = some (.int .u64 0)) :
    Calls Try.prog 28 #[.iface 85 (.agg #[.pointer (some ⟨b, 0, none⟩)]), .pointer (some ⟨nb, 0, none⟩)] w fun e w' =>
      e = .returned (.tuple #[]) ∧ Mod (fun x => x = b ∨ x = nb) w w' ∧ (fun X : RdX => Rd w' b c s X.1.1 X.1.2 ∧ Blk w' nb X.2 t) (rdU s 8 52 (rdW s 1 51 (rdI s 1 50 (rdI s 1 1 ((a, bad), C))))) := by
  have hm := method_r b
  have hq := ahead_r b
  have hbl := h.row.lt
  have hcl := h.box.lt
  have hnl := hn.lt
  go_enter Try.func28, Try.ntmps28
  go_wp2_with fail
  refine (whole_r 1 (.inl rfl) (by omega) b c nb 1 s a bad 0 C t _ (by omega) (by omega) h hn h1 hne hcb).mono ?_
  rintro e w1 ⟨rfl, hm1, hR1, hN1⟩
  have c0 := hN1.cell (i := 0) (v := .int .i64 5) (by rw [Array.getElem?_setIfInBounds_ne (by omega)]; exact h0)
  go_wp2_with fail
  refine (whole_r 1 (.inl rfl) (by omega) b c nb 50 s _ _ 0 _ t _ (by omega) (by omega) hR1 hN1 (by rw [Array.getElem?_setIfInBounds_ne (show 1 ≠ 50 by omega)]; exact h50) hne hcb).mono ?_
  rintro e w2 ⟨rfl, hm2, hR2, hN2⟩
  have c51 := hN2.cell (i := 51) (v := .int .i64 0) (by rw [Array.getElem?_setIfInBounds_ne (show 50 ≠ 51 by omega), Array.getElem?_setIfInBounds_ne (show 1 ≠ 51 by omega)]; exact h51)
  have hbl2 := hR2.row.lt
  have hcl2 := hR2.box.lt
  have hnl2 := hN2.lt
  go_wp2_with fail
  refine (whole_r 1 (.inl rfl) (by omega) b c w2.heap.size 0 s _ _ 1 #[.int .i64 1] 3 _ (by omega) (by omega) (hR2.mod ((Mod.refl (fun _ => False) _).alloc _) (by simp) (by simp)) (Blk.new w2 _ _) rfl (by omega) (by omega)).mono ?_
  rintro e w3 ⟨rfl, hm3, hR3, hB3⟩
  have hN3 := (hN2.alloc (.cells #[.int .i64 1] 3)).mod hm3 (by omega)
  have c3 := hB3.cell (i := 0) rfl
  have d51 := hN3.cell (i := 51) (v := .int .i64 0) (by rw [Array.getElem?_setIfInBounds_ne (show 50 ≠ 51 by omega), Array.getElem?_setIfInBounds_ne (show 1 ≠ 51 by omega)]; exact h51)
  have e51 := hN3.froz 51
  obtain ⟨v, hv⟩ : ∃ v, rdNum s (rdAt s (rdAt s a bad 1) (rdBad s a bad 1) 1) (rdBad s (rdAt s a bad 1) (rdBad s a bad 1) 1) 1 = v := ⟨_, rfl⟩
  have hvb := rdNum_bd s (rdAt s (rdAt s a bad 1) (rdBad s a bad 1) 1) (rdBad s (rdAt s a bad 1) (rdBad s a bad 1) 1) 1
  rw [hv] at c3 hvb
  replace hv := Lib.hid hv
  have hsub : v - 1 = v - 1 := rfl
  go_wp2_with fail
  have hN4 := hN3.set 51 (.int .i64 (v - 1))
  have hR4 : Rd (w3.setCell ⟨nb, 51, none⟩ (.int .i64 (v - 1))) b c s _ _ := ⟨hR3.row.other (Ne.symm hne) _, hR3.box.other hcb _, hR3.small, hR3.inn⟩
  go_region_with (go_at_call 84; refine (rnum_calls 8 (.inr (.inr (.inr rfl))) b c nb 52 s _ _ 0 _ t _ (hR4.mod (Mod.refl (fun _ => False) _).drew (by simp) (by simp)) hN4.drew (by rw [Array.getElem?_setIfInBounds_ne (show 51 ≠ 52 by omega), Array.getElem?_setIfInBounds_ne (show 50 ≠ 52 by omega), Array.getElem?_setIfInBounds_ne (show 1 ≠ 52 by omega)]; exact h52) hne hcb).mono ?_; rintro e w5 ⟨rfl, hm5, hR5, hN5⟩)
  go_wp2
  obtain rfl := hv.out
  exact bodyPost_end (v := .tuple #[]) (by simp [results, Try.results28, go_sem]) rfl ⟨rfl, (((hm1.trans hm2).trans ((hm3.widen (T := fun x => (x = b ∨ x = nb) ∨ x = w2.heap.size) (by intro k h; omega)).from_new)).setCell (fun _ => .inr rfl) _).drew.trans hm5, hR5, hN5⟩
end Go.Proofs.Ytcipdimnbleljaa
