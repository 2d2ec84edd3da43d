/-
  Layer 18 (msg): walk with a reader, whatever the kind.
  Layer 18 (msg): Decode.
-/
import Derived.Test.YtcipdimnbleljaaDeP
import Derived.Test.YtcipdimnbleljaaEn
namespace Go.Proofs.Ytcipdimnbleljaa
open Go.RowKit
open Extern.Stop (cell)

theorem rdI_ok {s : ByteArray} {a k i : Nat} {C : Array Value} (h : a + k ≤ s.size) : rdI s k i ((a, false), C) = ((a + k, false), C.setIfInBounds i (.int .i64 (numAt s a k))) := by
  unfold rdI; simp only; rw [at_ok h, bad_ok h, num_ok h]
theorem rdU_ok {s : ByteArray} {a k i : Nat} {C : Array Value} (h : a + k ≤ s.size) : rdU s k i ((a, false), C) = ((a + k, false), C.setIfInBounds i (.int .u64 (numAt s a k))) := by
  unfold rdU; simp only; rw [at_ok h, bad_ok h, num_ok h]
theorem rdW_ok {s : ByteArray} {a k i : Nat} {C : Array Value} (h : a + k ≤ s.size) : rdW s k i ((a, false), C) = ((a + k, false), C.setIfInBounds i (.int .i64 (numAt s a k - 1))) := by
  unfold rdW; simp only; rw [at_ok h, bad_ok h, num_ok h]

/-- what a reader's walk leaves -/
def RdPost (b c nb : Nat) (s : ByteArray) (k : Int) (t : TypeId) (w w' : World) : Prop :=
  ∃ a bad C, Rd w' b c s a bad ∧ Blk w' nb C t ∧ (s.size < widS k s → bad = true) ∧ (widS k s ≤ s.size → bad = false ∧ a = widS k s ∧
    ∃ p, MsgOf C (decM k s p) ∧ MarksAt w' (decM k s p) ∧ ∀ q, p = some q → w.heap.size ≤ q.block)
theorem marks_none {w : World} {k : Int} {s : ByteArray} (h : k ≠ 3) : MarksAt w (decM k s none) := by
  have e : (decM k s none).ms = [] := by simp [decM, h]
  refine ⟨fun _ => e, (fun x hx => by rw [e] at hx; cases hx), (by rw [e]; simp), (fun a ha j v hv => by rw [e] at hv; simp [mkCells] at hv)⟩

/-- a message's row that holds nothing but its kind -/
abbrev Bare (C : Array Value) (k : Int) : Prop := MsgOf C { zeroM with kind := k }
theorem row1 {C : Array Value} {s : ByteArray} (hC : Bare C 1) (h : 34 ≤ s.size) :
    MsgOf (rqRow s 6 false (((C.setIfInBounds 1 (.int .i64 (numAt s 0 1))).setIfInBounds 3 (.int .i64 (numAt s 1 1))).setIfInBounds 4 (.int .i64 (numAt s 2 4))) 5 10) (decM 1 s none) := by
  have hs := hC.size
  have hz : (((C.setIfInBounds 1 (.int .i64 (numAt s 0 1))).setIfInBounds 3 (.int .i64 (numAt s 1 1))).setIfInBounds 4 (.int .i64 (numAt s 2 4))).size = 53 := by simp only [Array.size_setIfInBounds]; exact hs
  refine ⟨by rw [rqRow_size]; exact hz, ?_, ?_, ?_, ?_, ?_, ?_, ?_, hC.l15, ?_, ?_, ?_, ?_, ?_, ?_⟩
  · rw [rqRow_get, if_neg (by omega)]; repeat rw [set_ne (by omega)]
    exact hC.h0
  · rw [rqRow_get, if_neg (by omega)]; repeat rw [set_ne (by omega)]
    exact set_eq (by omega)
  · rw [rqRow_get, if_neg (by omega)]; repeat rw [set_ne (by omega)]
    exact hC.h2
  · rw [rqRow_get, if_neg (by omega)]; repeat rw [set_ne (by omega)]
    exact set_eq (by simp only [Array.size_setIfInBounds]; omega)
  · rw [rqRow_get, if_neg (by omega)]
    exact set_eq (by simp only [Array.size_setIfInBounds]; omega)
  · intro i hi
    rw [rqRow_get, if_pos ⟨by omega, by omega, by omega⟩, show 5 + i - 5 = i by omega, rqV_ok (by omega) hi]
    rfl
  · intro i hi
    rw [rqRow_get, if_neg (by omega)]; repeat rw [set_ne (by omega)]
    exact hC.h15 i hi
  · rw [rqRow_get, if_neg (by omega)]; repeat rw [set_ne (by omega)]
    exact hC.h47
  · rw [rqRow_get, if_neg (by omega)]; repeat rw [set_ne (by omega)]
    exact hC.h48
  · rw [rqRow_get, if_neg (by omega)]; repeat rw [set_ne (by omega)]
    exact hC.h49
  · rw [rqRow_get, if_neg (by omega)]; repeat rw [set_ne (by omega)]
    exact hC.h50
  · rw [rqRow_get, if_neg (by omega)]; repeat rw [set_ne (by omega)]
    exact hC.h51
  · rw [rqRow_get, if_neg (by omega)]; repeat rw [set_ne (by omega)]
    exact hC.h52
theorem row2 {C : Array Value} {s : ByteArray} (hC : Bare C 2) (h : 34 ≤ s.size) :
    MsgOf (dgRow s 2 false ((C.setIfInBounds 1 (.int .i64 (numAt s 0 1))).setIfInBounds 2 (.int .i64 (numAt s 1 1))) 15 32) (decM 2 s none) := by
  have hs := hC.size
  have hz : ((C.setIfInBounds 1 (.int .i64 (numAt s 0 1))).setIfInBounds 2 (.int .i64 (numAt s 1 1))).size = 53 := by simp only [Array.size_setIfInBounds]; exact hs
  refine ⟨by rw [dgRow_size]; exact hz, ?_, ?_, ?_, ?_, ?_, ?_, ?_, byB_length _ _ _, ?_, ?_, ?_, ?_, ?_, ?_⟩
  · rw [dgRow_get, if_neg (by omega)]; repeat rw [set_ne (by omega)]
    exact hC.h0
  · rw [dgRow_get, if_neg (by omega)]; repeat rw [set_ne (by omega)]
    exact set_eq (by omega)
  · rw [dgRow_get, if_neg (by omega)]
    exact set_eq (by simp only [Array.size_setIfInBounds]; omega)
  · rw [dgRow_get, if_neg (by omega)]; repeat rw [set_ne (by omega)]
    exact hC.h3
  · rw [dgRow_get, if_neg (by omega)]; repeat rw [set_ne (by omega)]
    exact hC.h4
  · intro i hi
    rw [dgRow_get, if_neg (by omega)]; repeat rw [set_ne (by omega)]
    exact hC.h5 i hi
  · intro i hi
    rw [dgRow_get, if_pos ⟨by omega, by omega, by omega⟩, show 15 + i - 15 = i by omega, dgV_ok (n := 32) (by omega) hi]
    exact congrArg some (byB_getD s 2 32 i hi).symm
  · rw [dgRow_get, if_neg (by omega)]; repeat rw [set_ne (by omega)]
    exact hC.h47
  · rw [dgRow_get, if_neg (by omega)]; repeat rw [set_ne (by omega)]
    exact hC.h48
  · rw [dgRow_get, if_neg (by omega)]; repeat rw [set_ne (by omega)]
    exact hC.h49
  · rw [dgRow_get, if_neg (by omega)]; repeat rw [set_ne (by omega)]
    exact hC.h50
  · rw [dgRow_get, if_neg (by omega)]; repeat rw [set_ne (by omega)]
    exact hC.h51
  · rw [dgRow_get, if_neg (by omega)]; repeat rw [set_ne (by omega)]
    exact hC.h52
theorem row3 {C : Array Value} {s : ByteArray} {N : Nat} {p : Option Addr} (hC : Bare C 3) (hN : N = (numAt s 1 1).toNat) :
    MsgOf ((C.setIfInBounds 1 (.int .i64 (numAt s 0 1))).setIfInBounds 47 (.slice p N N)) (decM 3 s p) := by
  have hs := hC.size
  refine ⟨by simp only [Array.size_setIfInBounds]; exact hs, ?_, ?_, ?_, ?_, ?_, ?_, ?_, hC.l15, ?_, ?_, ?_, ?_, ?_, ?_⟩
  · repeat rw [set_ne (by omega)]
    exact hC.h0
  · repeat rw [set_ne (by omega)]
    exact set_eq (by omega)
  · repeat rw [set_ne (by omega)]
    exact hC.h2
  · repeat rw [set_ne (by omega)]
    exact hC.h3
  · repeat rw [set_ne (by omega)]
    exact hC.h4
  · intro i hi
    repeat rw [set_ne (by omega)]
    exact hC.h5 i hi
  · intro i hi
    repeat rw [set_ne (by omega)]
    exact hC.h15 i hi
  · rw [set_eq (by simp only [Array.size_setIfInBounds]; omega)]
    simp [decM, hN]
  · repeat rw [set_ne (by omega)]
    exact hC.h48
  · repeat rw [set_ne (by omega)]
    exact hC.h49
  · repeat rw [set_ne (by omega)]
    exact hC.h50
  · repeat rw [set_ne (by omega)]
    exact hC.h51
  · repeat rw [set_ne (by omega)]
    exact hC.h52
theorem row4 {C : Array Value} {s : ByteArray} (hC : Bare C 4) :
    MsgOf ((((C.setIfInBounds 1 (.int .i64 (numAt s 0 1))).setIfInBounds 2 (.int .i64 (numAt s 1 1))).setIfInBounds 48 (.int .u64 (numAt s 2 8))).setIfInBounds 49 (.int .u64 (numAt s 10 8))) (decM 4 s none) := by
  have hs := hC.size
  refine ⟨by simp only [Array.size_setIfInBounds]; exact hs, ?_, ?_, ?_, ?_, ?_, ?_, ?_, hC.l15, ?_, ?_, ?_, ?_, ?_, ?_⟩
  · repeat rw [set_ne (by omega)]
    exact hC.h0
  · repeat rw [set_ne (by omega)]
    exact set_eq (by omega)
  · repeat rw [set_ne (by omega)]
    exact set_eq (by simp only [Array.size_setIfInBounds]; omega)
  · repeat rw [set_ne (by omega)]
    exact hC.h3
  · repeat rw [set_ne (by omega)]
    exact hC.h4
  · intro i hi
    repeat rw [set_ne (by omega)]
    exact hC.h5 i hi
  · intro i hi
    repeat rw [set_ne (by omega)]
    exact hC.h15 i hi
  · repeat rw [set_ne (by omega)]
    exact hC.h47
  · repeat rw [set_ne (by omega)]
    exact set_eq (by simp only [Array.size_setIfInBounds]; omega)
  · exact set_eq (by simp only [Array.size_setIfInBounds]; omega)
  · repeat rw [set_ne (by omega)]
    exact hC.h50
  · repeat rw [set_ne (by omega)]
    exact hC.h51
  · repeat rw [set_ne (by omega)]
    exact hC.h52
theorem row5 {C : Array Value} {s : ByteArray} (hC : Bare C 5) :
    MsgOf ((((C.setIfInBounds 1 (.int .i64 (numAt s 0 1))).setIfInBounds 50 (.int .i64 (numAt s 1 1))).setIfInBounds 51 (.int .i64 (numAt s 2 1 - 1))).setIfInBounds 52 (.int .u64 (numAt s 3 8))) (decM 5 s none) := by
  have hs := hC.size
  refine ⟨by simp only [Array.size_setIfInBounds]; exact hs, ?_, ?_, ?_, ?_, ?_, ?_, ?_, hC.l15, ?_, ?_, ?_, ?_, ?_, ?_⟩
  · repeat rw [set_ne (by omega)]
    exact hC.h0
  · repeat rw [set_ne (by omega)]
    exact set_eq (by omega)
  · repeat rw [set_ne (by omega)]
    exact hC.h2
  · repeat rw [set_ne (by omega)]
    exact hC.h3
  · repeat rw [set_ne (by omega)]
    exact hC.h4
  · intro i hi
    repeat rw [set_ne (by omega)]
    exact hC.h5 i hi
  · intro i hi
    repeat rw [set_ne (by omega)]
    exact hC.h15 i hi
  · repeat rw [set_ne (by omega)]
    exact hC.h47
  · repeat rw [set_ne (by omega)]
    exact hC.h48
  · repeat rw [set_ne (by omega)]
    exact hC.h49
  · repeat rw [set_ne (by omega)]
    exact set_eq (by simp only [Array.size_setIfInBounds]; omega)
  · repeat rw [set_ne (by omega)]
    exact set_eq (by simp only [Array.size_setIfInBounds]; omega)
  · exact set_eq (by simp only [Array.size_setIfInBounds]; omega)
theorem mrRow_get {s : ByteArray} {n : Nat} (h : 2 + 33 * n ≤ s.size) : ∀ k, k ≤ n → ∀ j, j < k → ∀ i, i < 33 →
    (mrRow s 1 false n k)[j * 33 + i]? = (markRow (numAt s (2 + 33 * j) 1, byB s (3 + 33 * j) 32))[i]? := by
  intro k
  induction k with
  | zero => intro _ j hj; omega
  | succ k ih =>
    intro hk j hj i hi
    have hz : ((mrRow s 1 false n k).setIfInBounds (k * 33) (.int .i64 (rdNum s (mrA s 1 false k).1 (mrA s 1 false k).2 1))).size = n * 33 := by rw [Array.size_setIfInBounds, mrRow_size]
    have hst : mrA s 1 false k = (2 + 33 * k, false) := by
      rw [mrA_eq, stps_ok _ _ (by rw [rep_sum]; omega), rep_sum]
      congr 1
      omega
    rw [mrRow, dgRow_get, hz]
    by_cases hjk : j < k
    · rw [if_neg (by omega), set_ne (by omega)]
      exact ih (by omega) j hjk i hi
    · obtain rfl : j = k := by omega
      by_cases hi0 : i = 0
      · subst hi0
        rw [if_neg (by omega), Nat.add_zero, set_eq (by rw [mrRow_size]; omega), hst]
        show some (Value.int .i64 (rdNum s (2 + 33 * j) false 1)) = _
        rw [num_ok (by omega)]
        rfl
      · rw [if_pos ⟨by omega, by omega, by omega⟩, hst]
        show some (Value.int .u8 (dgV s (rdAt s (2 + 33 * j) false 1) (rdBad s (2 + 33 * j) false 1) _)) = _
        rw [at_ok (by omega), bad_ok (by omega), dgV_ok (n := 32) (by omega) (by omega)]
        obtain ⟨i', rfl⟩ : ∃ i', i = i' + 1 := ⟨i - 1, by omega⟩
        have e := byB_getD s (3 + 33 * j) 32 i' (by omega)
        have hl := byB_length s (3 + 33 * j) 32
        simp only [markRow, List.getElem?_cons_succ, List.getElem?_map]
        rw [List.getElem?_eq_getElem (by omega)]
        rw [List.getD_eq_getElem?_getD, List.getElem?_eq_getElem (by omega)] at e
        show _ = some (cell ((byB s (3 + 33 * j) 32)[i']'(by omega)))
        rw [show cell ((byB s (3 + 33 * j) 32)[i']'(by omega)) = _ from e]
        congr 3
        omega
theorem decM3_ms (s : ByteArray) (p : Option Addr) : (decM 3 s p).ms = (List.range (numAt s 1 1).toNat).map fun j => (numAt s (2 + 33 * j) 1, byB s (3 + 33 * j) 32) := rfl
theorem marks_three {w : World} {s : ByteArray} {ob N : Nat} {t : TypeId} (hN : N = (numAt s 1 1).toNat) (hB : Blk w ob (mrRow s 1 false N N) t) (h : 2 + 33 * N ≤ s.size) :
    MarksAt w (decM 3 s (some ⟨ob, 0, none⟩)) := by
  have hb := numAt_bd s 1 1
  have hlen : ∀ x ∈ (decM 3 s (some ⟨ob, 0, none⟩)).ms, x.2.length = 32 := by
    intro x hx
    rw [decM3_ms, List.mem_map] at hx
    obtain ⟨j, _, rfl⟩ := hx
    exact byB_length _ _ _
  have hl : (decM 3 s (some ⟨ob, 0, none⟩)).ms.length = N := by rw [decM3_ms, List.length_map, List.length_range, hN]
  refine ⟨fun hp => by simp [decM] at hp, hlen, by rw [hl]; omega, ?_⟩
  intro a ha j v hv
  have ha' : a = ⟨ob, 0, none⟩ := by simpa [decM] using ha.symm
  subst ha'
  have hj := (List.getElem?_eq_some_iff.1 hv).1
  rw [mkCells_length _ hlen, hl] at hj
  have e : (⟨ob, 0, none⟩ : Addr).add j = ⟨ob, j, none⟩ := by unfold Addr.add; split <;> simp_all
  rw [e]
  refine hB.cell ?_
  have hj1 : j / 33 < N := by omega
  have hx : (decM 3 s (some ⟨ob, 0, none⟩)).ms[j / 33]? = some (numAt s (2 + 33 * (j / 33)) 1, byB s (3 + 33 * (j / 33)) 32) := by
    rw [decM3_ms, List.getElem?_map, List.getElem?_range (by omega)]
    rfl
  have h1 := mkCells_at _ (j / 33) (j % 33) _ hlen hx (by omega)
  have h2 := mrRow_get h N (Nat.le_refl _) (j / 33) hj1 (j % 33) (by omega)
  rw [show j / 33 * 33 + j % 33 = j by omega] at h1 h2
  rw [h2, ← h1]
  exact hv

theorem widS_le (k : Int) (s : ByteArray) : widS k s ≤ 8450 := by
  have h := numAt_bd s 1 1
  simp only [Int.pow_succ, Int.pow_zero] at h
  unfold widS
  repeat (first | omega | split)
theorem widS_3 (s : ByteArray) : widS 3 s = if s.size < 2 then 2 else 2 + 33 * (numAt s 1 1).toNat := rfl
attribute [local irreducible] rqA rqRow dgA dgRow mrA mrRow rdAt rdBad rdNum

theorem walk_r (b c nb : Nat) (s : ByteArray) (k : Int) (C : Array Value) (t : TypeId) (w : World)
    (h : Rd w b c s 0 false) (hn : Blk w nb C t) (hne : nb ≠ b) (hcb : c ≠ nb) (hC : Bare C k) (hk : k = 1 ∨ k = 2 ∨ k = 3 ∨ k = 4 ∨ k = 5) :
    Calls Try.prog 28 #[.iface 85 (.agg #[.pointer (some ⟨b, 0, none⟩)]), .pointer (some ⟨nb, 0, none⟩)] w fun e w' =>
      e = .returned (.tuple #[]) ∧ Mod (fun x => x = b ∨ x = nb) w w' ∧ RdPost b c nb s k t w w' := by
  rcases hk with rfl | rfl | rfl | rfl | rfl
  · refine (walk_r1 b c nb s 0 false C t w h hn hne hcb hC.h0 hC.h1 hC.h3 hC.h4 hC.h5).mono ?_
    rintro e w' ⟨he, hm, hR, hN⟩
    refine ⟨he, hm, _, _, _, hR, hN, ?_, ?_⟩
    · intro hlt
      have := stps_no (s := s) ([1, 1, 4] ++ (List.range 10).map rqW) 0 (by omega) (by show s.size < 0 + 34; exact (by simpa [widS] using hlt))
      rw [stps_append] at this
      show (rqA s _ _ 10).2 = true
      rw [rqA_eq]
      exact this
    · intro hle
      have hle' : 34 ≤ s.size := hle
      rw [rdI_ok (by omega), rdI_ok (by omega), rdI_ok (by omega)]
      refine ⟨?_, ?_, none, row1 hC hle', marks_none (by decide), fun q hq => by cases hq⟩
      · show (rqA s 6 false 10).2 = false
        rw [rqA_eq, stps_ok _ _ (by show 6 + 28 ≤ _; omega)]
      · show (rqA s 6 false 10).1 = 34
        rw [rqA_eq, stps_ok _ _ (by show 6 + 28 ≤ _; omega)]
        rfl
  · refine (walk_r2 b c nb s 0 false C t w h hn hne hcb hC.h0 hC.h1 hC.h2 (fun i hi => (hC.h15 i hi).trans (by match i, hi with | 0, _ => rfl | 1, _ => rfl | 2, _ => rfl | 3, _ => rfl | 4, _ => rfl | 5, _ => rfl | 6, _ => rfl | 7, _ => rfl | 8, _ => rfl | 9, _ => rfl | 10, _ => rfl | 11, _ => rfl | 12, _ => rfl | 13, _ => rfl | 14, _ => rfl | 15, _ => rfl | 16, _ => rfl | 17, _ => rfl | 18, _ => rfl | 19, _ => rfl | 20, _ => rfl | 21, _ => rfl | 22, _ => rfl | 23, _ => rfl | 24, _ => rfl | 25, _ => rfl | 26, _ => rfl | 27, _ => rfl | 28, _ => rfl | 29, _ => rfl | 30, _ => rfl | 31, _ => rfl | i + 32, hi => exact absurd hi (by omega)))).mono ?_
    rintro e w' ⟨he, hm, hR, hN⟩
    refine ⟨he, hm, _, _, _, hR, hN, ?_, ?_⟩
    · intro hlt
      have := stps_no (s := s) ([1, 1] ++ List.replicate 32 1) 0 (by omega) (by show s.size < 0 + 34; exact (by simpa [widS] using hlt))
      rw [stps_append] at this
      show (dgA s _ _ 32).2 = true
      rw [dgA_eq]
      exact this
    · intro hle
      have hle' : 34 ≤ s.size := hle
      rw [rdI_ok (by omega), rdI_ok (by omega)]
      refine ⟨?_, ?_, none, row2 hC hle', marks_none (by decide), fun q hq => by cases hq⟩
      · show (dgA s 2 false 32).2 = false
        rw [dgA_eq, stps_ok _ _ (by show 2 + 32 ≤ _; omega)]
      · show (dgA s 2 false 32).1 = 34
        rw [dgA_eq, stps_ok _ _ (by show 2 + 32 ≤ _; omega)]
        rfl
  · refine (walk_r3 b c nb s 0 false C t w h hn hne hcb hC.h0 hC.h1 hC.h47).mono ?_
    rintro e w' ⟨he, hm, ob, N, hN, hob, hR, hB, hO⟩
    refine ⟨he, hm, _, _, _, hR, hB, ?_, ?_⟩
    · intro hlt
      have := stps_no (s := s) (1 :: List.replicate (1 + 33 * N) 1) 0 (by omega) (by
        rw [List.sum_cons, rep_sum]
        rw [widS_3] at hlt
        split at hlt
        · omega
        · rename_i h2
          have e2 : N = (numAt s 1 1).toNat := by
            rw [hN]
            show (rdNum s (rdAt s 0 false 1) (rdBad s 0 false 1) 1).toNat = _
            rw [at_ok (by omega), bad_ok (by omega), num_ok (by omega)]
          omega)
      rw [mrA_eq]
      exact this
    · intro hle
      rw [widS_3] at hle
      have h2 : 2 ≤ s.size := by split at hle <;> omega
      rw [if_neg (by omega)] at hle
      rw [rdI_ok (by omega)] at hN hR hB hO ⊢
      have e2 : N = (numAt s 1 1).toNat := by
        rw [hN]
        show (rdNum s 1 false 1).toNat = _
        rw [num_ok (by omega)]
      have est : mrA s 1 false N = (2 + 33 * N, false) := by
        rw [mrA_eq, stps_ok _ _ (by rw [rep_sum]; omega), rep_sum]
        congr 1
        omega
      have hO' : Blk w' ob (mrRow s 1 false N N) 65 := hO
      refine ⟨?_, ?_, some ⟨ob, 0, none⟩, row3 hC e2, marks_three e2 hO' (by omega), ?_⟩
      · show (mrA s 1 false N).2 = false
        rw [est]
      · show (mrA s 1 false N).1 = _
        rw [est, widS_3, if_neg (by omega), e2]
      · intro q hq
        cases hq
        exact hob
  · refine (walk_r4 b c nb s 0 false C t w h hn hne hcb hC.h0 hC.h1 hC.h2 hC.h48 hC.h49).mono ?_
    rintro e w' ⟨he, hm, hR, hN⟩
    refine ⟨he, hm, _, _, _, hR, hN, ?_, ?_⟩
    · intro hlt
      exact stps_no (s := s) [1, 1, 8, 8] 0 (by omega) (by show s.size < 0 + 18; exact (by simpa [widS] using hlt))
    · intro hle
      have hle' : 18 ≤ s.size := hle
      rw [rdI_ok (by omega), rdI_ok (by omega), rdU_ok (by omega), rdU_ok (by omega)]
      exact ⟨rfl, rfl, none, row4 hC, marks_none (by decide), fun q hq => by cases hq⟩
  · refine (walk_r5 b c nb s 0 false C t w h hn hne hcb hC.h0 hC.h1 hC.h50 hC.h51 hC.h52).mono ?_
    rintro e w' ⟨he, hm, hR, hN⟩
    refine ⟨he, hm, _, _, _, hR, hN, ?_, ?_⟩
    · intro hlt
      exact stps_no (s := s) [1, 1, 1, 8] 0 (by omega) (by show s.size < 0 + 11; exact (by simpa [widS] using hlt))
    · intro hle
      have hle' : 11 ≤ s.size := hle
      rw [rdI_ok (by omega), rdI_ok (by omega), rdW_ok (by omega), rdU_ok (by omega)]
      exact ⟨rfl, rfl, none, row5 hC, marks_none (by decide), fun q hq => by cases hq⟩
end Go.Proofs.Ytcipdimnbleljaa
namespace Go.Proofs.Ytcipdimnbleljaa
open Go.RowKit
open Extern.Stop (cell)

/-- what Decode answers -/
def decE (s : ByteArray) : Int :=
  if Frm.parE s ≠ 0 then Frm.parE s
  else if Frm.parK s < 1 ∨ 5 < Frm.parK s then 15
  else if (Frm.parB s).size < widS (Frm.parK s) (Frm.parB s) then 14
  else if widS (Frm.parK s) (Frm.parB s) < (Frm.parB s).size then 15
  else if mayB (decM (Frm.parK s) (Frm.parB s) none) = true then 0 else 15
def decR (s : ByteArray) (p : Option Addr) : MV := if decE s = 0 then decM (Frm.parK s) (Frm.parB s) p else zeroM
theorem mayB_p (k : Int) (b : ByteArray) (p q : Option Addr) : mayB (decM k b p) = mayB (decM k b q) := rfl

def zero53 : Array Value := #[.int .i64 0, .int .i64 0, .int .i64 0, .int .i64 0, .int .i64 0, .int .i64 0, .int .i64 0, .int .i64 0, .int .i64 0, .int .i64 0, .int .i64 0, .int .i64 0, .int .i64 0, .int .i64 0, .int .i64 0, .int .u8 0, .int .u8 0, .int .u8 0, .int .u8 0, .int .u8 0, .int .u8 0, .int .u8 0, .int .u8 0, .int .u8 0, .int .u8 0, .int .u8 0, .int .u8 0, .int .u8 0, .int .u8 0, .int .u8 0, .int .u8 0, .int .u8 0, .int .u8 0, .int .u8 0, .int .u8 0, .int .u8 0, .int .u8 0, .int .u8 0, .int .u8 0, .int .u8 0, .int .u8 0, .int .u8 0, .int .u8 0, .int .u8 0, .int .u8 0, .int .u8 0, .int .u8 0, .slice none 0 0, .int .u64 0, .int .u64 0, .int .i64 0, .int .i64 0, .int .u64 0]
theorem zero_of : MsgOf zero53 zeroM := by
  refine ⟨rfl, rfl, rfl, rfl, rfl, rfl, ?_, ?_, rfl, rfl, rfl, rfl, rfl, rfl, rfl⟩
  · intro i hi
    match i, hi with
    | 0, _ => rfl
    | 1, _ => rfl
    | 2, _ => rfl
    | 3, _ => rfl
    | 4, _ => rfl
    | 5, _ => rfl
    | 6, _ => rfl
    | 7, _ => rfl
    | 8, _ => rfl
    | 9, _ => rfl
    | i + 10, hi => exact absurd hi (by omega)
  · intro i hi
    match i, hi with
    | 0, _ => rfl
    | 1, _ => rfl
    | 2, _ => rfl
    | 3, _ => rfl
    | 4, _ => rfl
    | 5, _ => rfl
    | 6, _ => rfl
    | 7, _ => rfl
    | 8, _ => rfl
    | 9, _ => rfl
    | 10, _ => rfl
    | 11, _ => rfl
    | 12, _ => rfl
    | 13, _ => rfl
    | 14, _ => rfl
    | 15, _ => rfl
    | 16, _ => rfl
    | 17, _ => rfl
    | 18, _ => rfl
    | 19, _ => rfl
    | 20, _ => rfl
    | 21, _ => rfl
    | 22, _ => rfl
    | 23, _ => rfl
    | 24, _ => rfl
    | 25, _ => rfl
    | 26, _ => rfl
    | 27, _ => rfl
    | 28, _ => rfl
    | 29, _ => rfl
    | 30, _ => rfl
    | 31, _ => rfl
    | i + 32, hi => exact absurd hi (by omega)
theorem zero_rg : MsgRg zeroM := ⟨rg0, rg0, rg0, rg0, rg0, fun _ _ => rg0, (fun x hx => by cases hx), ug0, ug0, rg0, rg0, ug0⟩
theorem zero_marks (w : World) : MarksAt w zeroM := ⟨fun _ => rfl, (fun x hx => by cases hx), by show 0 ≤ _; omega, (fun a ha => by cases ha)⟩
theorem run_zero (w : World) : (Instr.build 42 #[]).run Try.prog w = .ok (.agg zero53) w := by kernel_rfl
theorem run_kind (k : Int) (w : World) : (Instr.build 42 #[(0, .int .i64 k)]).run Try.prog w = .ok (.agg (zero53.setIfInBounds 0 (.int .i64 k))) w := by kernel_rfl
theorem zero_one : ∀ v ∈ zero53.toList, v.oneCell' = true := by decide
theorem bare_of (k : Int) : Bare (zero53.setIfInBounds 0 (.int .i64 k)) k := by
  have h := zero_of
  refine ⟨rfl, rfl, rfl, rfl, rfl, rfl, ?_, ?_, rfl, rfl, rfl, rfl, rfl, rfl, rfl⟩
  · intro i hi
    rw [set_ne (by omega)]
    exact h.h5 i hi
  · intro i hi
    rw [set_ne (by omega)]
    exact h.h15 i hi
section
variable {P : Program}
theorem run_storeVar_row (w : World) (g : Nat) (ty : TypeId) (C cs : Array Value) (t : TypeId) (hB : Blk w g C t) (hs : C.size = cs.size) (h1 : ∀ v ∈ cs.toList, v.oneCell' = true) (hi : (P.info? ty).map (·.size) = some cs.size) :
    (storeVar ty ⟨g, 0, none⟩ (.agg cs)).run P w = .ok () (w.setRow g cs) := by
  have e := run_storeCells_at (P := P) g 0 t cs.toList 0 C w hB (by simp; omega) h1
  cases hq : P.info? ty with
  | none => simp [hq] at hi
  | some i =>
    have hs' : i.size = cs.size := by simpa [hq] using hi
    have e2 : w.setRow g (C.toList.take (0 + 0) ++ cs.toList ++ C.toList.drop (0 + 0 + cs.toList.length)).toArray = w.setRow g cs := by
      have : C.toList.drop (0 + 0 + cs.toList.length) = [] := List.drop_eq_nil_of_le (by simp; omega)
      rw [this]
      simp only [Nat.add_zero, List.take_zero, List.nil_append, List.append_nil, Array.toArray_toList]
    rw [e2] at e
    simp [storeVar, Sem.run_bind, sizeOf, typeInfo, hq, hs', Value.cells, e]
/-- a struct stored into its own variable: the variable's row is the struct -/
theorem wpList_store_row {ops : Array Oper} {rest : List Oper} {o : Oper} {a : Act} {w : World} {Q : Exit → Act → World → Prop} (hgd : o.guard = none) (ty : TypeId) (x y : Operand) (ho : o.op = .store ty x y) (hdst : o.dst = none)
    (g : Nat) (hx : a.eval x = .pointer (some ⟨g, 0, none⟩)) (C cs : Array Value) (t : TypeId) (hB : Blk w g C t) (hy : a.eval y = .agg cs) (hs : C.size = cs.size) (h1 : ∀ v ∈ cs.toList, v.oneCell' = true)
    (hi : (P.info? ty).map (·.size) = some cs.size)
    (h : ∀ w', Blk w' g cs t → Mod (· = g) w w' → wpList P ops Q rest a w') : wpList P ops Q (o :: rest) a w :=
  wpList_plain hgd fun K_ hK => by
    unfold Oper.wp execOp
    simp only [ho, hx, hy, Instr.storeAt, Instr.sureAddr, Sem.run_bind, Sem.run_pure, Result.andThen_ok, run_storeVar_row w g ty C cs t hB hs h1 hi]
    show K_ (a.put o.dst undef) _
    rw [hdst]
    exact hK _ _ (h _ (setRow_heap w g C cs t (0, 0) hB) ⟨rfl, rfl, rfl, by simp [World.setRow], fun k _ hk => setRow_other w g k cs hk⟩)
end
theorem msg_size (C : Array Value) (h : C.size = 53) : (Try.prog.info? 42).map (·.size) = some C.size := by rw [h]; kernel_rfl
theorem dec_rg (k : Int) (b : ByteArray) (p : Option Addr) (hk : I64 k) : MsgRg (decM k b p) := by
  have n1 : ∀ i, I64 (numAt b i 1) := fun i => by have := numAt_bd b i 1; unfold I64; omega
  have n2 : ∀ i, I64 (numAt b i 2) := fun i => by have := numAt_bd b i 2; unfold I64; omega
  have n4 : ∀ i, I64 (numAt b i 4) := fun i => by have := numAt_bd b i 4; unfold I64; omega
  have n8 : ∀ i, U64 (numAt b i 8) := fun i => by have := numAt_bd b i 8; unfold U64; omega
  have it : ∀ (c : Prop) [Decidable c] (x : Int), I64 x → I64 (if c then x else 0) := fun c _ x h => by split; exact h; exact rg0
  have ut : ∀ (c : Prop) [Decidable c] (x : Int), U64 x → U64 (if c then x else 0) := fun c _ x h => by split; exact h; exact ug0
  refine ⟨hk, n1 0, it _ _ (n1 1), it _ _ (n1 1), it _ _ (n4 2), ?_, ?_, ut _ _ (n8 2), ut _ _ (n8 10), it _ _ (n1 1), it _ _ ?_, ut _ _ (n8 3)⟩
  · intro i hi
    refine it _ _ ?_
    unfold rqW
    split
    · exact n2 _
    · split
      · exact n4 _
      · exact n2 _
  · intro x hx
    simp only [decM] at hx
    split at hx
    · rw [List.mem_map] at hx
      obtain ⟨j, _, rfl⟩ := hx
      exact n1 _
    · cases hx
  · have := numAt_bd b 2 1
    unfold I64
    omega

theorem results_cell_tmp {P : Program} {fn : Func} {p q : Tmp} {ty : TypeId} (h : fn.results = #[.cell p ty, .tmp q]) (tmps : Array Value) (w : World) (g : Nat) (t : TypeId) (cs : Array Value) (fr : Nat × Nat) (d : TypeDesc)
    (hp : tmps.getD p undef = .pointer (some ⟨g, 0, none⟩)) (hg : w.heap[g]? = some (.cells cs t fr))
    (hu : P.underlying ty = some d) (hd : (match d with | .struct _ | .array _ _ => true | _ => false) = true) (hi : (P.info? ty).map (·.size) = some cs.size) :
    (results fn tmps).run P w = .ok (.tuple #[.agg cs, tmps.getD q undef]) w := by
  have hp' : tmps[p]?.getD undef = .pointer (some ⟨g, 0, none⟩) := by simpa using hp
  simp [results, h, hp', asAddr, run_loadVar_row w g t ty cs fr d hg hu hd hi]
theorem wpList_build1_v {P : Program} {ops : Array Oper} {rest : List Oper} {o : Oper} {a : Act} {w : World} {Q : Exit → Act → World → Prop} (hgd : Region.wanted o (yielded ops a.tmps) = true) (ty : TypeId) (i : Nat) (x : Operand) (ho : o.op = .build ty #[(i, x)])
    (v1 : Value) (hx : a.eval x = v1) (v : Value) (hrun : (Instr.build ty #[(i, v1)]).run P w = .ok v w) (h : wpList P ops Q rest (a.put o.dst v) w) : wpList P ops Q (o :: rest) a w :=
  wpList_v hgd v (by unfold execOp; simp only [ho, hx, List.map_toArray, List.map_cons, List.map_nil, Sem.run_bind, hrun, Sem.run_pure, Result.andThen_ok]) h

def DecPost (s : ByteArray) (w : World) (e : Ending) (w' : World) : Prop :=
  ∃ C p, e = .returned (.tuple #[.agg C, .int .i64 (decE s)]) ∧ Below w.heap.size w w' ∧ MsgOf C (decR s p) ∧ MarksAt w' (decR s p) ∧ ∀ q, p = some q → w.heap.size ≤ q.block
theorem dec_zero {s : ByteArray} {w w' : World} {x : Int} {v : Value} (h : decE s = x ∧ x ≠ 0) (hb : Below w.heap.size w w') (hv : v = .int .i64 x) : DecPost s w (.returned (.tuple #[.agg zero53, v])) w' := by
  have e : decR s none = zeroM := by unfold decR; rw [if_neg (by rw [h.1]; exact h.2)]
  refine ⟨zero53, none, by rw [hv, h.1], hb, ?_, ?_, (fun q hq => by cases hq)⟩
  · rw [e]; exact zero_of
  · rw [e]; exact zero_marks _
theorem parK_bd (s : ByteArray) : 0 ≤ Frm.parK s ∧ Frm.parK s ≤ 255 := by
  unfold Frm.parK Frm.splK
  split
  · split
    · rename_i h
      have := (s[0]'(by simp [Frm.ok] at h; omega)).toNat_lt
      omega
    · omega
  · omega
theorem parB_size (s : ByteArray) : (Frm.parB s).size ≤ s.size := by
  unfold Frm.parB Frm.splB
  split
  · split
    · rw [ByteArray.size_extract]; omega
    · show 0 ≤ _; omega
  · show 0 ≤ _; omega
theorem msg_one {C : Array Value} {m : MV} (h : MsgOf C m) : ∀ v ∈ C.toList, v.oneCell' = true := by
  intro v hv
  obtain ⟨i, hi, rfl⟩ := List.getElem_of_mem hv
  have hs := h.size
  have hi' : i < C.size := by simpa using hi
  have key : ∀ u, C[i]? = some u → u.oneCell' = true → (C.toList[i]).oneCell' = true := by
    intro u hu h1
    rw [Array.getElem?_eq_getElem hi'] at hu
    have : C.toList[i] = u := by simpa using hu
    rw [this]; exact h1
  by_cases h15 : 15 ≤ i ∧ i < 47
  · have := h.h15 (i - 15) (by omega)
    rw [show 15 + (i - 15) = i by omega] at this
    exact key _ this rfl
  · by_cases h5 : 5 ≤ i ∧ i < 15
    · have := h.h5 (i - 5) (by omega)
      rw [show 5 + (i - 5) = i by omega] at this
      exact key _ this rfl
    · have : i = 0 ∨ i = 1 ∨ i = 2 ∨ i = 3 ∨ i = 4 ∨ i = 47 ∨ i = 48 ∨ i = 49 ∨ i = 50 ∨ i = 51 ∨ i = 52 := by omega
      rcases this with rfl | rfl | rfl | rfl | rfl | rfl | rfl | rfl | rfl | rfl | rfl
      · exact key _ h.h0 rfl
      · exact key _ h.h1 rfl
      · exact key _ h.h2 rfl
      · exact key _ h.h3 rfl
      · exact key _ h.h4 rfl
      · exact key _ h.h47 rfl
      · exact key _ h.h48 rfl
      · exact key _ h.h49 rfl
      · exact key _ h.h50 rfl
      · exact key _ h.h51 rfl
      · exact key _ h.h52 rfl
theorem zero_lit : zero53 = #[.int .i64 0, .int .i64 0, .int .i64 0, .int .i64 0, .int .i64 0, .int .i64 0, .int .i64 0, .int .i64 0, .int .i64 0, .int .i64 0, .int .i64 0, .int .i64 0, .int .i64 0, .int .i64 0, .int .i64 0, .int .u8 0, .int .u8 0, .int .u8 0, .int .u8 0, .int .u8 0, .int .u8 0, .int .u8 0, .int .u8 0, .int .u8 0, .int .u8 0, .int .u8 0, .int .u8 0, .int .u8 0, .int .u8 0, .int .u8 0, .int .u8 0, .int .u8 0, .int .u8 0, .int .u8 0, .int .u8 0, .int .u8 0, .int .u8 0, .int .u8 0, .int .u8 0, .int .u8 0, .int .u8 0, .int .u8 0, .int .u8 0, .int .u8 0, .int .u8 0, .int .u8 0, .int .u8 0, .slice none 0 0, .int .u64 0, .int .u64 0, .int .i64 0, .int .i64 0, .int .u64 0] := rfl

set_option maxHeartbeats 1000000 in
set_option maxRecDepth 100000 in
theorem decode_calls (s : ByteArray) (w : World) (hs : s.size ≤ 140737488351232) : Calls Try.prog 18 #[.string s] w (DecPost s w) := by
  have hkb := parK_bd s
  have hbs := parB_size s
  have hpc := Lib.hid (fun w => parse_calls s w (by unfold maxLen; omega))
  have hE : Hid (decE s = _) := Lib.hid (show decE s = if Frm.parE s ≠ 0 then Frm.parE s else if Frm.parK s < 1 ∨ 5 < Frm.parK s then 15 else if (Frm.parB s).size < widS (Frm.parK s) (Frm.parB s) then 14
      else if widS (Frm.parK s) (Frm.parB s) < (Frm.parB s).size then 15 else if mayB (decM (Frm.parK s) (Frm.parB s) none) = true then 0 else 15 from rfl)
  have hRr : Hid (∀ p, decE s = 0 → decR s p = decM (Frm.parK s) (Frm.parB s) p) := Lib.hid (fun p h => by unfold decR; rw [if_pos h])
  generalize Frm.parE s = pe at hpc hE
  generalize Frm.parK s = k at hpc hE hkb hRr
  generalize Frm.parB s = b at hpc hE hbs hRr
  go_enter Try.func18, Try.ntmps18
  go_upto_region 1 with fail
  refine wp_world (fun wx => Blk wx w.heap.size zero53 42 ∧ Below w.heap.size w wx) ⟨Blk.new w zero53 42, (Below.refl _ _).alloc (Nat.le_refl _) _⟩ ?_
  rintro w0 ⟨hB0, hb0⟩
  go_wp2_with fail
  refine (hpc.out _).mono ?_
  rintro e w1 ⟨rfl, hb1⟩
  have HB := Lib.hid (hB0.mod ((Mod.refl (fun _ => False) _).after hb1) (fun h => h))
  have hbN := hb0.trans (hb1.mono hb0.size)
  clear hB0 hb0 hb1 hpc
  by_cases hpe : pe = 0
  · subst hpe
    have hin := Lib.hid (fun w => within_calls (k - 1) 5 w)
    have hw1 : IntKind.i64.wrap (k - 1) = k - 1 := IntWalk.i64_in _ (by omega)
    by_cases hk5 : 1 ≤ k ∧ k ≤ 5
    · obtain ⟨hk1, hk2⟩ := hk5
      have e5 : inB (k - 1) 5 = true := decide_eq_true (by omega)
      rw [e5] at hin
      have hkk : k = 1 ∨ k = 2 ∨ k = 3 ∨ k = 4 ∨ k = 5 := by omega
      have hnew := Lib.hid (show zero53.size = (zero53.setIfInBounds 0 (.int .i64 k)).size by simp)
      have hone : Hid (∀ v ∈ (zero53.setIfInBounds 0 (.int .i64 k)).toList, v.oneCell' = true) := Lib.hid (by
        intro v hv
        rw [Array.toList_setIfInBounds] at hv
        rcases List.mem_or_eq_of_mem_set hv with h | h
        · exact zero_one v h
        · subst h; rfl)
      have hsz1 := Lib.hid (msg_size (zero53.setIfInBounds 0 (.int .i64 k)) (by simp; rfl))
      have hbr := Lib.hid (bare_of k)
      have hrk := Lib.hid (run_kind k)
      have HKK := Lib.hid hkk
      clear hkk
      generalize zero53.setIfInBounds 0 (.int .i64 k) = M0 at hnew hone hsz1 hbr hrk
      go_wp2_with fail
      refine (hin.out _).mono ?_
      rintro e w2 ⟨rfl, rfl⟩
      go_wp2_with (first | (refine wpList_build1_v rfl 42 0 _ rfl (.int .i64 k) rfl (.agg M0) (hrk.out _) ?_) | (refine wpList_store_new rfl 42 _ _ rfl rfl rfl _ M0 _ rfl (by exact hnew.out) hone.out hsz1.out ?_))
      refine (read_calls b _ (by omega)).mono ?_
      rintro e w3 ⟨rfl, hb3, hRd⟩
      have esz : (w1.alloc (.cells M0 42)).heap.size = w1.heap.size + 1 := by simp
      have hN3 := (Blk.new w1 M0 42).mod ((Mod.refl (fun _ => False) _).after hb3) (fun h => h)
      have hsz3 := hb3.size
      have HB3 := Lib.hid ((HB.out.alloc (.cells M0 42)).mod ((Mod.refl (fun _ => False) _).after hb3) (fun h => h))
      rw [esz] at hRd hb3 hsz3
      have hc3 := hRd.box.lt
      have hbN3 := (hbN.alloc hbN.size (.cells M0 42)).trans (hb3.mono (by have := hbN.size; omega))
      have hsN := hbN.size
      have hBl := HB.out.lt
      go_wp2_with fail
      refine (walk_r (w1.heap.size + 1) (w1.heap.size + 1 + 1) w1.heap.size b k M0 42 _ ⟨hRd.row.alloc _, hRd.box.alloc _, hRd.small, hRd.inn⟩ (hN3.alloc _) (by omega) (by omega) hbr.out HKK.out).mono ?_
      rintro e w4 ⟨rfl, hm4, hpost⟩
      obtain ⟨a', bad', C', hR4, hN4, hbad, hgood⟩ := hpost
      have hP4 := (Blk.new w3 #[.pointer (some ⟨w1.heap.size + 1, 0, none⟩)] 85).mod hm4 (by omega)
      have HB4 := Lib.hid ((HB3.out.alloc (.cells #[.pointer (some ⟨w1.heap.size + 1, 0, none⟩)] 85)).mod hm4 (by omega))
      have hbN4 := (hbN3.alloc hbN3.size (.cells #[.pointer (some ⟨w1.heap.size + 1, 0, none⟩)] 85)).trans (hm4.below (by simp; omega) (by rintro x (rfl | rfl) <;> omega))
      have k8 := hP4.cell (i := 0) rfl
      have hend := end_calls _ _ b a' bad' w4 hR4
      have hev : ∃ ev : Int, (if bad' = true then (14 : Int) else if a' < b.size then 15 else 0) = ev ∧ ev = if b.size < widS k b then 14 else if widS k b < b.size then 15 else 0 := by
        refine ⟨_, rfl, ?_⟩
        by_cases hlt : b.size < widS k b
        · rw [hbad hlt, if_pos rfl, if_pos hlt]
        · obtain ⟨e1, e2, _⟩ := hgood (by omega)
          rw [e1, e2, if_neg hlt, if_neg (by simp)]
      obtain ⟨ev, hev1, hev2⟩ := hev
      rw [hev1] at hend
      have Hend := Lib.hid hend
      replace hgood := Lib.hid hgood
      have HN4 := Lib.hid hN4
      have Hm4 := Lib.hid hm4
      replace hev2 := Lib.hid hev2
      clear hend hev1 hbad hR4 hN4 hP4 hm4
      go_wp2_with fail
      refine Hend.out.mono ?_
      rintro e w5 ⟨rfl, hb5⟩
      replace HB := Lib.hid (HB4.out.mod ((Mod.refl (fun _ => False) _).after hb5) (fun h => h))
      have HN := Lib.hid (HN4.out.mod ((Mod.refl (fun _ => False) _).after hb5) (fun h => h))
      have hbN5 := hbN4.trans (hb5.mono hbN4.size)
      clear HB3 HB4 HN4 Hend
      by_cases hv0 : ev = 0
      · subst hv0
        have hw := hev2.out
        have hsz : b.size = widS k b := by
          split at hw
          · omega
          · split at hw <;> omega
        clear hw
        obtain ⟨_, _, p, hM, hA, hp⟩ := hgood.out (by omega)
        have hA5 := marks_below hA hb5
        have hmy := Lib.hid (may_calls C' (decM k b p) w5 hM hA5 (dec_rg k b p ⟨by omega, by omega⟩))
        have hszC := Lib.hid (msg_size C' hM.size)
        have Hsz := Lib.hid hsz
        have HM := Lib.hid hM
        have HA5 := Lib.hid hA5
        have Hp := Lib.hid hp
        have HE2 : decE s = if mayB (decM k b p) = true then 0 else 15 := by
          rw [hE.out, if_neg (by simp), if_neg (by omega), if_neg (by omega), if_neg (by omega)]
          rfl
        replace HE2 := Lib.hid HE2
        clear hsz hM hA hA5 hp hgood
        by_cases hmay : mayB (decM k b p) = true
        · have HE0 := HE2.out
          rw [if_pos hmay] at HE0
          replace HE0 := Lib.hid HE0
          rw [hmay] at hmy
          go_wp2_with (first | (refine wpList_load_row rfl 42 _ rfl w1.heap.size rfl 42 C' (0, 0) _ HN.out Try.underlying42 rfl hszC.out ?_))
          refine hmy.out.mono ?_
          rintro e w6 ⟨rfl, hb6⟩
          replace HB := Lib.hid (HB.out.mod ((Mod.refl (fun _ => False) _).after hb6) (fun h => h))
          replace HN := Lib.hid (HN.out.mod ((Mod.refl (fun _ => False) _).after hb6) (fun h => h))
          have hbN6 := hbN5.trans (hb6.mono hbN5.size)
          have hone := Lib.hid (msg_one HM.out)
          have hsC := Lib.hid (show zero53.size = C'.size by rw [HM.out.size]; rfl)
          go_wp2_with (first | (refine wpList_load_row rfl 42 _ rfl w1.heap.size rfl 42 C' (0, 0) _ HN.out Try.underlying42 rfl hszC.out ?_) | (refine wpList_store_row rfl 42 _ _ rfl rfl w.heap.size rfl zero53 C' 42 HB.out rfl (by exact hsC.out) hone.out hszC.out ?_; intro wz hBz hmz))
          (try simp only [Exit.inBlock, Exit.then])
          refine bodyPost_ret (results_cell_tmp rfl _ _ w.heap.size _ _ _ _ rfl hBz Try.underlying42 rfl hszC.out) rfl ⟨C', p, by rw [HE0.out]; rfl, hbN6.trans (hmz.below hbN6.size (fun _ h => Nat.le_of_eq h.symm)), ?_, ?_, ?_⟩
          · rw [hRr.out p HE0.out]
            exact HM.out
          · rw [hRr.out p HE0.out]
            refine (marks_below HA5.out hb6).mod hmz ?_
            intro q hq
            have hpq : p = none ∨ p = some q := by
              simp only [decM] at hq
              split at hq
              · exact .inr hq
              · cases hq
            rcases hpq with h | h
            · rw [h] at hq; simp [decM] at hq
            · have := Hp.out q h
              simp at this
              omega
          · intro q hq
            have h1 := Hp.out q hq
            have h2 := hbN3.size
            simp at h1
            omega
        · have HE0 := HE2.out
          rw [if_neg hmay] at HE0
          replace HE0 := Lib.hid HE0
          rw [Bool.not_eq_true _ |>.mp hmay] at hmy
          go_wp2_with (first | (refine wpList_load_row rfl 42 _ rfl w1.heap.size rfl 42 C' (0, 0) _ HN.out Try.underlying42 rfl hszC.out ?_))
          refine hmy.out.mono ?_
          rintro e w6 ⟨rfl, hb6⟩
          replace HB := Lib.hid (HB.out.mod ((Mod.refl (fun _ => False) _).after hb6) (fun h => h))
          have hbN6 := hbN5.trans (hb6.mono hbN5.size)
          go_wp2_with (first | (refine wpList_build_v rfl 42 rfl _ (run_zero _) ?_) | (refine wpList_store_row rfl 42 _ _ rfl rfl w.heap.size rfl zero53 zero53 42 HB.out rfl rfl zero_one (msg_size _ rfl) ?_; intro wz hBz hmz))
          (try simp only [Exit.inBlock, Exit.then])
          exact bodyPost_ret (results_cell_tmp rfl _ _ w.heap.size _ _ _ _ rfl hBz Try.underlying42 rfl (msg_size _ rfl)) rfl (dec_zero (by exact ⟨HE0.out, by decide⟩) (hbN6.trans (hmz.below hbN6.size (fun _ h => Nat.le_of_eq h.symm))) rfl)
      · have ib : (ev == (0 : Int)) = false := by simpa using hv0
        have ib2 : (ev != (0 : Int)) = true := by simpa using hv0
        have HE0 : decE s = ev := by
          have hw := hev2.out
          rw [hE.out, if_neg (by simp), if_neg (by omega)]
          split at hw
          · rename_i h1
            rw [if_pos h1, hw]
          · rename_i h1
            split at hw
            · rename_i h2
              rw [if_neg h1, if_pos h2, hw]
            · omega
        replace HE0 := Lib.hid HE0
        go_wp2_with (first | (refine wpList_build_v rfl 42 rfl _ (run_zero _) ?_) | (refine wpList_store_row rfl 42 _ _ rfl rfl w.heap.size rfl zero53 zero53 42 HB.out rfl rfl zero_one (msg_size _ rfl) ?_; intro wz hBz hmz))
        (try simp only [Exit.inBlock, Exit.then])
        exact bodyPost_ret (results_cell_tmp rfl _ _ w.heap.size _ _ _ _ rfl hBz Try.underlying42 rfl (msg_size _ rfl)) rfl (dec_zero (by exact ⟨HE0.out, hv0⟩) (hbN5.trans (hmz.below hbN5.size (fun _ h => Nat.le_of_eq h.symm))) rfl)
    · have e5 : inB (k - 1) 5 = false := decide_eq_false (by omega)
      rw [e5] at hin
      go_wp2_with fail
      refine (hin.out _).mono ?_
      rintro e w2 ⟨rfl, rfl⟩
      go_wp2_with (first | (refine wpList_build_v rfl 42 rfl _ (run_zero _) ?_) | (refine wpList_store_row rfl 42 _ _ rfl rfl w.heap.size rfl zero53 zero53 42 HB.out rfl rfl zero_one (msg_size _ rfl) ?_; intro wz hBz hmz))
      (try simp only [Exit.inBlock, Exit.then])
      exact bodyPost_ret (results_cell_tmp rfl _ _ w.heap.size _ _ _ _ rfl hBz Try.underlying42 rfl (msg_size _ rfl)) rfl (dec_zero (by rw [hE.out, if_neg (by simp), if_pos (by omega)]; exact ⟨rfl, by decide⟩) (hbN.trans (hmz.below hbN.size (fun _ h => Nat.le_of_eq h.symm))) rfl)
  · have ib : (pe == (0 : Int)) = false := by simpa using hpe
    have ib2 : (pe != (0 : Int)) = true := by simpa using hpe
    go_wp2_with (first | (refine wpList_build_v rfl 42 rfl _ (run_zero _) ?_) | (refine wpList_store_row rfl 42 _ _ rfl rfl w.heap.size rfl zero53 zero53 42 HB.out rfl rfl zero_one (msg_size _ rfl) ?_; intro wz hBz hmz))
    (try simp only [Exit.inBlock, Exit.then])
    exact bodyPost_ret (results_cell_tmp rfl _ _ w.heap.size _ _ _ _ rfl hBz Try.underlying42 rfl (msg_size _ rfl)) rfl (dec_zero (by rw [hE.out, if_pos hpe]; exact ⟨rfl, hpe⟩) (hbN.trans (hmz.below hbN.size (fun _ h => Nat.le_of_eq h.symm))) rfl)
end Go.Proofs.Ytcipdimnbleljaa
