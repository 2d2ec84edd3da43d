/-
  Layer 18 (msg): walk with a reader, whatever the kind.
-/
import Derived.Test.YtcipdimnbleljaaDeP
namespace Go.Proofs.Ytcipdimnbleljaa
open Go.RowKit
open Extern.Stop (cell)

theorem rdI_ok {s : ByteArray} {a k i : Nat} {C : Array Value} (h : a + k ≤ s.size) : rdI s k i ((a, false), C) = ((a + k, false), C.setIfInBounds i (.int .i64 (numAt s a k))) := by
  unfold rdI; simp only; rw [at_ok h, bad_ok h, num_ok h]
theorem rdU_ok {s : ByteArray} {a k i : Nat} {C : Array Value} (h : a + k ≤ s.size) : rdU s k i ((a, false), C) = ((a + k, false), C.setIfInBounds i (.int .u64 (numAt s a k))) := by
  unfold rdU; simp only; rw [at_ok h, bad_ok h, num_ok h]
theorem rdW_ok {s : ByteArray} {a k i : Nat} {C : Array Value} (h : a + k ≤ s.size) : rdW s k i ((a, false), C) = ((a + k, false), C.setIfInBounds i (.int .i64 (numAt s a k - 1))) := by
  unfold rdW; simp only; rw [at_ok h, bad_ok h, num_ok h]

/-- what a reader's walk leaves -/
def RdPost (b c nb : Nat) (s : ByteArray) (k : Int) (t : TypeId) (w w' : World) : Prop :=
  ∃ a bad C, Rd w' b c s a bad ∧ Blk w' nb C t ∧ (s.size < widS k s → bad = true) ∧ (widS k s ≤ s.size → bad = false ∧ a = widS k s ∧
    ∃ p, MsgOf C (decM k s p) ∧ MarksAt w' (decM k s p) ∧ ∀ q, p = some q → w.heap.size ≤ q.block)
theorem marks_none {w : World} {k : Int} {s : ByteArray} (h : k ≠ 3) : MarksAt w (decM k s none) := by
  have e : (decM k s none).ms = [] := by simp [decM, h]
  refine ⟨fun _ => e, (fun x hx => by rw [e] at hx; cases hx), (by rw [e]; simp), (fun a ha j v hv => by rw [e] at hv; simp [mkCells] at hv)⟩

/-- a message's row that holds nothing but its kind -/
abbrev Bare (C : Array Value) (k : Int) : Prop := MsgOf C { zeroM with kind := k }
theorem row1 {C : Array Value} {s : ByteArray} (hC : Bare C 1) (h : 34 ≤ s.size) :
    MsgOf (rqRow s 6 false (((C.setIfInBounds 1 (.int .i64 (numAt s 0 1))).setIfInBounds 3 (.int .i64 (numAt s 1 1))).setIfInBounds 4 (.int .i64 (numAt s 2 4))) 5 10) (decM 1 s none) := by
  have hs := hC.size
  have hz : (((C.setIfInBounds 1 (.int .i64 (numAt s 0 1))).setIfInBounds 3 (.int .i64 (numAt s 1 1))).setIfInBounds 4 (.int .i64 (numAt s 2 4))).size = 53 := by simp only [Array.size_setIfInBounds]; exact hs
  refine ⟨by rw [rqRow_size]; exact hz, ?_, ?_, ?_, ?_, ?_, ?_, ?_, hC.l15, ?_, ?_, ?_, ?_, ?_, ?_⟩
  · rw [rqRow_get, if_neg (by omega)]; repeat rw [set_ne (by omega)]
    exact hC.h0
  · rw [rqRow_get, if_neg (by omega)]; repeat rw [set_ne (by omega)]
    exact set_eq (by omega)
  · rw [rqRow_get, if_neg (by omega)]; repeat rw [set_ne (by omega)]
    exact hC.h2
  · rw [rqRow_get, if_neg (by omega)]; repeat rw [set_ne (by omega)]
    exact set_eq (by simp only [Array.size_setIfInBounds]; omega)
  · rw [rqRow_get, if_neg (by omega)]
    exact set_eq (by simp only [Array.size_setIfInBounds]; omega)
  · intro i hi
    rw [rqRow_get, if_pos ⟨by omega, by omega, by omega⟩, show 5 + i - 5 = i by omega, rqV_ok (by omega) hi]
    rfl
  · intro i hi
    rw [rqRow_get, if_neg (by omega)]; repeat rw [set_ne (by omega)]
    exact hC.h15 i hi
  · rw [rqRow_get, if_neg (by omega)]; repeat rw [set_ne (by omega)]
    exact hC.h47
  · rw [rqRow_get, if_neg (by omega)]; repeat rw [set_ne (by omega)]
    exact hC.h48
  · rw [rqRow_get, if_neg (by omega)]; repeat rw [set_ne (by omega)]
    exact hC.h49
  · rw [rqRow_get, if_neg (by omega)]; repeat rw [set_ne (by omega)]
    exact hC.h50
  · rw [rqRow_get, if_neg (by omega)]; repeat rw [set_ne (by omega)]
    exact hC.h51
  · rw [rqRow_get, if_neg (by omega)]; repeat rw [set_ne (by omega)]
    exact hC.h52
theorem row2 {C : Array Value} {s : ByteArray} (hC : Bare C 2) (h : 34 ≤ s.size) :
    MsgOf (dgRow s 2 false ((C.setIfInBounds 1 (.int .i64 (numAt s 0 1))).setIfInBounds 2 (.int .i64 (numAt s 1 1))) 15 32) (decM 2 s none) := by
  have hs := hC.size
  have hz : ((C.setIfInBounds 1 (.int .i64 (numAt s 0 1))).setIfInBounds 2 (.int .i64 (numAt s 1 1))).size = 53 := by simp only [Array.size_setIfInBounds]; exact hs
  refine ⟨by rw [dgRow_size]; exact hz, ?_, ?_, ?_, ?_, ?_, ?_, ?_, byB_length _ _ _, ?_, ?_, ?_, ?_, ?_, ?_⟩
  · rw [dgRow_get, if_neg (by omega)]; repeat rw [set_ne (by omega)]
    exact hC.h0
  · rw [dgRow_get, if_neg (by omega)]; repeat rw [set_ne (by omega)]
    exact set_eq (by omega)
  · rw [dgRow_get, if_neg (by omega)]
    exact set_eq (by simp only [Array.size_setIfInBounds]; omega)
  · rw [dgRow_get, if_neg (by omega)]; repeat rw [set_ne (by omega)]
    exact hC.h3
  · rw [dgRow_get, if_neg (by omega)]; repeat rw [set_ne (by omega)]
    exact hC.h4
  · intro i hi
    rw [dgRow_get, if_neg (by omega)]; repeat rw [set_ne (by omega)]
    exact hC.h5 i hi
  · intro i hi
    rw [dgRow_get, if_pos ⟨by omega, by omega, by omega⟩, show 15 + i - 15 = i by omega, dgV_ok (n := 32) (by omega) hi]
    exact congrArg some (byB_getD s 2 32 i hi).symm
  · rw [dgRow_get, if_neg (by omega)]; repeat rw [set_ne (by omega)]
    exact hC.h47
  · rw [dgRow_get, if_neg (by omega)]; repeat rw [set_ne (by omega)]
    exact hC.h48
  · rw [dgRow_get, if_neg (by omega)]; repeat rw [set_ne (by omega)]
    exact hC.h49
  · rw [dgRow_get, if_neg (by omega)]; repeat rw [set_ne (by omega)]
    exact hC.h50
  · rw [dgRow_get, if_neg (by omega)]; repeat rw [set_ne (by omega)]
    exact hC.h51
  · rw [dgRow_get, if_neg (by omega)]; repeat rw [set_ne (by omega)]
    exact hC.h52
theorem row3 {C : Array Value} {s : ByteArray} {N : Nat} {p : Option Addr} (hC : Bare C 3) (hN : N = (numAt s 1 1).toNat) :
    MsgOf ((C.setIfInBounds 1 (.int .i64 (numAt s 0 1))).setIfInBounds 47 (.slice p N N)) (decM 3 s p) := by
  have hs := hC.size
  refine ⟨by simp only [Array.size_setIfInBounds]; exact hs, ?_, ?_, ?_, ?_, ?_, ?_, ?_, hC.l15, ?_, ?_, ?_, ?_, ?_, ?_⟩
  · repeat rw [set_ne (by omega)]
    exact hC.h0
  · repeat rw [set_ne (by omega)]
    exact set_eq (by omega)
  · repeat rw [set_ne (by omega)]
    exact hC.h2
  · repeat rw [set_ne (by omega)]
    exact hC.h3
  · repeat rw [set_ne (by omega)]
    exact hC.h4
  · intro i hi
    repeat rw [set_ne (by omega)]
    exact hC.h5 i hi
  · intro i hi
    repeat rw [set_ne (by omega)]
    exact hC.h15 i hi
  · rw [set_eq (by simp only [Array.size_setIfInBounds]; omega)]
    simp [decM, hN]
  · repeat rw [set_ne (by omega)]
    exact hC.h48
  · repeat rw [set_ne (by omega)]
    exact hC.h49
  · repeat rw [set_ne (by omega)]
    exact hC.h50
  · repeat rw [set_ne (by omega)]
    exact hC.h51
  · repeat rw [set_ne (by omega)]
    exact hC.h52
theorem row4 {C : Array Value} {s : ByteArray} (hC : Bare C 4) :
    MsgOf ((((C.setIfInBounds 1 (.int .i64 (numAt s 0 1))).setIfInBounds 2 (.int .i64 (numAt s 1 1))).setIfInBounds 48 (.int .u64 (numAt s 2 8))).setIfInBounds 49 (.int .u64 (numAt s 10 8))) (decM 4 s none) := by
  have hs := hC.size
  refine ⟨by simp only [Array.size_setIfInBounds]; exact hs, ?_, ?_, ?_, ?_, ?_, ?_, ?_, hC.l15, ?_, ?_, ?_, ?_, ?_, ?_⟩
  · repeat rw [set_ne (by omega)]
    exact hC.h0
  · repeat rw [set_ne (by omega)]
    exact set_eq (by omega)
  · repeat rw [set_ne (by omega)]
    exact set_eq (by simp only [Array.size_setIfInBounds]; omega)
  · repeat rw [set_ne (by omega)]
    exact hC.h3
  · repeat rw [set_ne (by omega)]
    exact hC.h4
  · intro i hi
    repeat rw [set_ne (by omega)]
    exact hC.h5 i hi
  · intro i hi
    repeat rw [set_ne (by omega)]
    exact hC.h15 i hi
  · repeat rw [set_ne (by omega)]
    exact hC.h47
  · repeat rw [set_ne (by omega)]
    exact set_eq (by simp only [Array.size_setIfInBounds]; omega)
  · exact set_eq (by simp only [Array.size_setIfInBounds]; omega)
  · repeat rw [set_ne (by omega)]
    exact hC.h50
  · repeat rw [set_ne (by omega)]
    exact hC.h51
  · repeat rw [set_ne (by omega)]
    exact hC.h52
theorem row5 {C : Array Value} {s : ByteArray} (hC : Bare C 5) :
    MsgOf ((((C.setIfInBounds 1 (.int .i64 (numAt s 0 1))).setIfInBounds 50 (.int .i64 (numAt s 1 1))).setIfInBounds 51 (.int .i64 (numAt s 2 1 - 1))).setIfInBounds 52 (.int .u64 (numAt s 3 8))) (decM 5 s none) := by
  have hs := hC.size
  refine ⟨by simp only [Array.size_setIfInBounds]; exact hs, ?_, ?_, ?_, ?_, ?_, ?_, ?_, hC.l15, ?_, ?_, ?_, ?_, ?_, ?_⟩
  · repeat rw [set_ne (by omega)]
    exact hC.h0
  · repeat rw [set_ne (by omega)]
    exact set_eq (by omega)
  · repeat rw [set_ne (by omega)]
    exact hC.h2
  · repeat rw [set_ne (by omega)]
    exact hC.h3
  · repeat rw [set_ne (by omega)]
    exact hC.h4
  · intro i hi
    repeat rw [set_ne (by omega)]
    exact hC.h5 i hi
  · intro i hi
    repeat rw [set_ne (by omega)]
    exact hC.h15 i hi
  · repeat rw [set_ne (by omega)]
    exact hC.h47
  · repeat rw [set_ne (by omega)]
    exact hC.h48
  · repeat rw [set_ne (by omega)]
    exact hC.h49
  · repeat rw [set_ne (by omega)]
    exact set_eq (by simp only [Array.size_setIfInBounds]; omega)
  · repeat rw [set_ne (by omega)]
    exact set_eq (by simp only [Array.size_setIfInBounds]; omega)
  · exact set_eq (by simp only [Array.size_setIfInBounds]; omega)
theorem mrRow_get {s : ByteArray} {n : Nat} (h : 2 + 33 * n ≤ s.size) : ∀ k, k ≤ n → ∀ j, j < k → ∀ i, i < 33 →
    (mrRow s 1 false n k)[j * 33 + i]? = (markRow (numAt s (2 + 33 * j) 1, byB s (3 + 33 * j) 32))[i]? := by
  intro k
  induction k with
  | zero => intro _ j hj; omega
  | succ k ih =>
    intro hk j hj i hi
    have hz : ((mrRow s 1 false n k).setIfInBounds (k * 33) (.int .i64 (rdNum s (mrA s 1 false k).1 (mrA s 1 false k).2 1))).size = n * 33 := by rw [Array.size_setIfInBounds, mrRow_size]
    have hst : mrA s 1 false k = (2 + 33 * k, false) := by
      rw [mrA_eq, stps_ok _ _ (by rw [rep_sum]; omega), rep_sum]
      congr 1
      omega
    rw [mrRow, dgRow_get, hz]
    by_cases hjk : j < k
    · rw [if_neg (by omega), set_ne (by omega)]
      exact ih (by omega) j hjk i hi
    · obtain rfl : j = k := by omega
      by_cases hi0 : i = 0
      · subst hi0
        rw [if_neg (by omega), Nat.add_zero, set_eq (by rw [mrRow_size]; omega), hst]
        show some (Value.int .i64 (rdNum s (2 + 33 * j) false 1)) = _
        rw [num_ok (by omega)]
        rfl
      · rw [if_pos ⟨by omega, by omega, by omega⟩, hst]
        show some (Value.int .u8 (dgV s (rdAt s (2 + 33 * j) false 1) (rdBad s (2 + 33 * j) false 1) _)) = _
        rw [at_ok (by omega), bad_ok (by omega), dgV_ok (n := 32) (by omega) (by omega)]
        obtain ⟨i', rfl⟩ : ∃ i', i = i' + 1 := ⟨i - 1, by omega⟩
        have e := byB_getD s (3 + 33 * j) 32 i' (by omega)
        have hl := byB_length s (3 + 33 * j) 32
        simp only [markRow, List.getElem?_cons_succ, List.getElem?_map]
        rw [List.getElem?_eq_getElem (by omega)]
        rw [List.getD_eq_getElem?_getD, List.getElem?_eq_getElem (by omega)] at e
        show _ = some (cell ((byB s (3 + 33 * j) 32)[i']'(by omega)))
        rw [show cell ((byB s (3 + 33 * j) 32)[i']'(by omega)) = _ from e]
        congr 3
        omega
theorem decM3_ms (s : ByteArray) (p : Option Addr) : (decM 3 s p).ms = (List.range (numAt s 1 1).toNat).map fun j => (numAt s (2 + 33 * j) 1, byB s (3 + 33 * j) 32) := rfl
theorem marks_three {w : World} {s : ByteArray} {ob N : Nat} {t : TypeId} (hN : N = (numAt s 1 1).toNat) (hB : Blk w ob (mrRow s 1 false N N) t) (h : 2 + 33 * N ≤ s.size) :
    MarksAt w (decM 3 s (some ⟨ob, 0, none⟩)) := by
  have hb := numAt_bd s 1 1
  have hlen : ∀ x ∈ (decM 3 s (some ⟨ob, 0, none⟩)).ms, x.2.length = 32 := by
    intro x hx
    rw [decM3_ms, List.mem_map] at hx
    obtain ⟨j, _, rfl⟩ := hx
    exact byB_length _ _ _
  have hl : (decM 3 s (some ⟨ob, 0, none⟩)).ms.length = N := by rw [decM3_ms, List.length_map, List.length_range, hN]
  refine ⟨fun hp => by simp [decM] at hp, hlen, by rw [hl]; omega, ?_⟩
  intro a ha j v hv
  have ha' : a = ⟨ob, 0, none⟩ := by simpa [decM] using ha.symm
  subst ha'
  have hj := (List.getElem?_eq_some_iff.1 hv).1
  rw [mkCells_length _ hlen, hl] at hj
  have e : (⟨ob, 0, none⟩ : Addr).add j = ⟨ob, j, none⟩ := by unfold Addr.add; split <;> simp_all
  rw [e]
  refine hB.cell ?_
  have hj1 : j / 33 < N := by omega
  have hx : (decM 3 s (some ⟨ob, 0, none⟩)).ms[j / 33]? = some (numAt s (2 + 33 * (j / 33)) 1, byB s (3 + 33 * (j / 33)) 32) := by
    rw [decM3_ms, List.getElem?_map, List.getElem?_range (by omega)]
    rfl
  have h1 := mkCells_at _ (j / 33) (j % 33) _ hlen hx (by omega)
  have h2 := mrRow_get h N (Nat.le_refl _) (j / 33) hj1 (j % 33) (by omega)
  rw [show j / 33 * 33 + j % 33 = j by omega] at h1 h2
  rw [h2, ← h1]
  exact hv

theorem widS_le (k : Int) (s : ByteArray) : widS k s ≤ 8450 := by
  have h := numAt_bd s 1 1
  simp only [Int.pow_succ, Int.pow_zero] at h
  unfold widS
  repeat (first | omega | split)
theorem widS_3 (s : ByteArray) : widS 3 s = if s.size < 2 then 2 else 2 + 33 * (numAt s 1 1).toNat := rfl
attribute [local irreducible] rqA rqRow dgA dgRow mrA mrRow rdAt rdBad rdNum

theorem walk_r (b c nb : Nat) (s : ByteArray) (k : Int) (C : Array Value) (t : TypeId) (w : World)
    (h : Rd w b c s 0 false) (hn : Blk w nb C t) (hne : nb ≠ b) (hcb : c ≠ nb) (hC : Bare C k) (hk : k = 1 ∨ k = 2 ∨ k = 3 ∨ k = 4 ∨ k = 5) :
    Calls Try.prog 28 #[.iface 85 (.agg #[.pointer (some ⟨b, 0, none⟩)]), .pointer (some ⟨nb, 0, none⟩)] w fun e w' =>
      e = .returned (.tuple #[]) ∧ Mod (fun x => x = b ∨ x = nb) w w' ∧ RdPost b c nb s k t w w' := by
  rcases hk with rfl | rfl | rfl | rfl | rfl
  · refine (walk_r1 b c nb s 0 false C t w h hn hne hcb hC.h0 hC.h1 hC.h3 hC.h4 hC.h5).mono ?_
    rintro e w' ⟨he, hm, hR, hN⟩
    refine ⟨he, hm, _, _, _, hR, hN, ?_, ?_⟩
    · intro hlt
      have := stps_no (s := s) ([1, 1, 4] ++ (List.range 10).map rqW) 0 (by omega) (by show s.size < 0 + 34; exact (by simpa [widS] using hlt))
      rw [stps_append] at this
      show (rqA s _ _ 10).2 = true
      rw [rqA_eq]
      exact this
    · intro hle
      have hle' : 34 ≤ s.size := hle
      rw [rdI_ok (by omega), rdI_ok (by omega), rdI_ok (by omega)]
      refine ⟨?_, ?_, none, row1 hC hle', marks_none (by decide), fun q hq => by cases hq⟩
      · show (rqA s 6 false 10).2 = false
        rw [rqA_eq, stps_ok _ _ (by show 6 + 28 ≤ _; omega)]
      · show (rqA s 6 false 10).1 = 34
        rw [rqA_eq, stps_ok _ _ (by show 6 + 28 ≤ _; omega)]
        rfl
  · refine (walk_r2 b c nb s 0 false C t w h hn hne hcb hC.h0 hC.h1 hC.h2 (fun i hi => (hC.h15 i hi).trans (by match i, hi with | 0, _ => rfl | 1, _ => rfl | 2, _ => rfl | 3, _ => rfl | 4, _ => rfl | 5, _ => rfl | 6, _ => rfl | 7, _ => rfl | 8, _ => rfl | 9, _ => rfl | 10, _ => rfl | 11, _ => rfl | 12, _ => rfl | 13, _ => rfl | 14, _ => rfl | 15, _ => rfl | 16, _ => rfl | 17, _ => rfl | 18, _ => rfl | 19, _ => rfl | 20, _ => rfl | 21, _ => rfl | 22, _ => rfl | 23, _ => rfl | 24, _ => rfl | 25, _ => rfl | 26, _ => rfl | 27, _ => rfl | 28, _ => rfl | 29, _ => rfl | 30, _ => rfl | 31, _ => rfl | i + 32, hi => exact absurd hi (by omega)))).mono ?_
    rintro e w' ⟨he, hm, hR, hN⟩
    refine ⟨he, hm, _, _, _, hR, hN, ?_, ?_⟩
    · intro hlt
      have := stps_no (s := s) ([1, 1] ++ List.replicate 32 1) 0 (by omega) (by show s.size < 0 + 34; exact (by simpa [widS] using hlt))
      rw [stps_append] at this
      show (dgA s _ _ 32).2 = true
      rw [dgA_eq]
      exact this
    · intro hle
      have hle' : 34 ≤ s.size := hle
      rw [rdI_ok (by omega), rdI_ok (by omega)]
      refine ⟨?_, ?_, none, row2 hC hle', marks_none (by decide), fun q hq => by cases hq⟩
      · show (dgA s 2 false 32).2 = false
        rw [dgA_eq, stps_ok _ _ (by show 2 + 32 ≤ _; omega)]
      · show (dgA s 2 false 32).1 = 34
        rw [dgA_eq, stps_ok _ _ (by show 2 + 32 ≤ _; omega)]
        rfl
  · refine (walk_r3 b c nb s 0 false C t w h hn hne hcb hC.h0 hC.h1 hC.h47).mono ?_
    rintro e w' ⟨he, hm, ob, N, hN, hob, hR, hB, hO⟩
    refine ⟨he, hm, _, _, _, hR, hB, ?_, ?_⟩
    · intro hlt
      have := stps_no (s := s) (1 :: List.replicate (1 + 33 * N) 1) 0 (by omega) (by
        rw [List.sum_cons, rep_sum]
        rw [widS_3] at hlt
        split at hlt
        · omega
        · rename_i h2
          have e2 : N = (numAt s 1 1).toNat := by
            rw [hN]
            show (rdNum s (rdAt s 0 false 1) (rdBad s 0 false 1) 1).toNat = _
            rw [at_ok (by omega), bad_ok (by omega), num_ok (by omega)]
          omega)
      rw [mrA_eq]
      exact this
    · intro hle
      rw [widS_3] at hle
      have h2 : 2 ≤ s.size := by split at hle <;> omega
      rw [if_neg (by omega)] at hle
      rw [rdI_ok (by omega)] at hN hR hB hO ⊢
      have e2 : N = (numAt s 1 1).toNat := by
        rw [hN]
        show (rdNum s 1 false 1).toNat = _
        rw [num_ok (by omega)]
      have est : mrA s 1 false N = (2 + 33 * N, false) := by
        rw [mrA_eq, stps_ok _ _ (by rw [rep_sum]; omega), rep_sum]
        congr 1
        omega
      have hO' : Blk w' ob (mrRow s 1 false N N) 65 := hO
      refine ⟨?_, ?_, some ⟨ob, 0, none⟩, row3 hC e2, marks_three e2 hO' (by omega), ?_⟩
      · show (mrA s 1 false N).2 = false
        rw [est]
      · show (mrA s 1 false N).1 = _
        rw [est, widS_3, if_neg (by omega), e2]
      · intro q hq
        cases hq
        exact hob
  · refine (walk_r4 b c nb s 0 false C t w h hn hne hcb hC.h0 hC.h1 hC.h2 hC.h48 hC.h49).mono ?_
    rintro e w' ⟨he, hm, hR, hN⟩
    refine ⟨he, hm, _, _, _, hR, hN, ?_, ?_⟩
    · intro hlt
      exact stps_no (s := s) [1, 1, 8, 8] 0 (by omega) (by show s.size < 0 + 18; exact (by simpa [widS] using hlt))
    · intro hle
      have hle' : 18 ≤ s.size := hle
      rw [rdI_ok (by omega), rdI_ok (by omega), rdU_ok (by omega), rdU_ok (by omega)]
      exact ⟨rfl, rfl, none, row4 hC, marks_none (by decide), fun q hq => by cases hq⟩
  · refine (walk_r5 b c nb s 0 false C t w h hn hne hcb hC.h0 hC.h1 hC.h50 hC.h51 hC.h52).mono ?_
    rintro e w' ⟨he, hm, hR, hN⟩
    refine ⟨he, hm, _, _, _, hR, hN, ?_, ?_⟩
    · intro hlt
      exact stps_no (s := s) [1, 1, 1, 8] 0 (by omega) (by show s.size < 0 + 11; exact (by simpa [widS] using hlt))
    · intro hle
      have hle' : 11 ≤ s.size := hle
      rw [rdI_ok (by omega), rdI_ok (by omega), rdW_ok (by omega), rdU_ok (by omega)]
      exact ⟨rfl, rfl, none, row5 hC, marks_none (by decide), fun q hq => by cases hq⟩
end Go.Proofs.Ytcipdimnbleljaa
