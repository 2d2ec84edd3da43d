/-
  Layer 18 (msg): walk, with a reader.
-/
import Derived.Test.YtcipdimnbleljaaWk
namespace Go.Proofs.Ytcipdimnbleljaa
open Go.RowKit

attribute [local irreducible] rqA rqRow dgA dgRow mrA mrRow rdAt rdBad rdNum

/-- what the reader does, to where it stands, and to the message's row -/
abbrev RdX := (Nat × Bool) × Array Value
def rdI (s : ByteArray) (k i : Nat) (x : RdX) : RdX := ((rdAt s x.1.1 x.1.2 k, rdBad s x.1.1 x.1.2 k), x.2.setIfInBounds i (.int .i64 (rdNum s x.1.1 x.1.2 k)))
def rdU (s : ByteArray) (k i : Nat) (x : RdX) : RdX := ((rdAt s x.1.1 x.1.2 k, rdBad s x.1.1 x.1.2 k), x.2.setIfInBounds i (.int .u64 (rdNum s x.1.1 x.1.2 k)))
def rdW (s : ByteArray) (k i : Nat) (x : RdX) : RdX := ((rdAt s x.1.1 x.1.2 k, rdBad s x.1.1 x.1.2 k), x.2.setIfInBounds i (.int .i64 (rdNum s x.1.1 x.1.2 k - 1)))
def rdRq (s : ByteArray) (o : Nat) (x : RdX) : RdX := (rqA s x.1.1 x.1.2 10, rqRow s x.1.1 x.1.2 x.2 o 10)
def rdDg (s : ByteArray) (o : Nat) (x : RdX) : RdX := (dgA s x.1.1 x.1.2 32, dgRow s x.1.1 x.1.2 x.2 o 32)

set_option maxHeartbeats 1000000 in
set_option maxRecDepth 100000 in
theorem walk_r1 (b c nb : Nat) (s : ByteArray) (a : Nat) (bad : Bool) (C : Array Value) (t : TypeId) (w : World)
    (h : Rd w b c s a bad) (hn : Blk w nb C t) (hne : nb ≠ b) (hcb : c ≠ nb)
    (h0 : C[0]? = some (.int .i64 1)) (h1 : C[1]? = some (.int .i64 0))
    (h3 : C[3]? = some (.int .i64 0)) (h4 : C[4]? = some (.int .i64 0)) (h5 : ∀ i, i < 10 → C[5 + i]? = some (.int .i64 0)) :
    Calls Try.prog 28 #[.iface 85 (.agg #[.pointer (some ⟨b, 0, none⟩)]), .pointer (some ⟨nb, 0, none⟩)] w fun e w' =>
      e = .returned (.tuple #[]) ∧ Mod (fun x => x = b ∨ x = nb) w w' ∧ (fun X : RdX => Rd w' b c s X.1.1 X.1.2 ∧ Blk w' nb X.2 t) (rdRq s 5 (rdI s 4 4 (rdI s 1 3 (rdI s 1 1 ((a, bad), C))))) := by
  have hm := method_r b
  have hq := ahead_r b
  have hbl := h.row.lt
  have hcl := h.box.lt
  have hnl := hn.lt
  go_enter Try.func28, Try.ntmps28
  go_wp2_with fail
  refine (whole_r 1 (.inl rfl) (by omega) b c nb 1 s a bad 0 C t _ (by omega) (by omega) h hn h1 hne hcb).mono ?_
  rintro e w1 ⟨rfl, hm1, hR1, hN1⟩
  have c0 := hN1.cell (i := 0) (v := .int .i64 1) (by rw [Array.getElem?_setIfInBounds_ne (by omega)]; exact h0)
  go_wp2_with fail
  refine (whole_r 1 (.inl rfl) (by omega) b c nb 3 s _ _ 0 _ t _ (by omega) (by omega) hR1 hN1 (by rw [Array.getElem?_setIfInBounds_ne (show 1 ≠ 3 by omega)]; exact h3) hne hcb).mono ?_
  rintro e w2 ⟨rfl, hm2, hR2, hN2⟩
  go_wp2_with fail
  refine (whole_r 4 (.inr (.inr (.inl rfl))) (by omega) b c nb 4 s _ _ 0 _ t _ (by omega) (by omega) hR2 hN2 (by rw [Array.getElem?_setIfInBounds_ne (show 3 ≠ 4 by omega), Array.getElem?_setIfInBounds_ne (show 1 ≠ 4 by omega)]; exact h4) hne hcb).mono ?_
  rintro e w3 ⟨rfl, hm3, hR3, hN3⟩
  go_wp2_with fail
  refine (request_r b c nb 5 s _ _ _ t _ hR3 hN3 (fun i hi => ⟨0, by rw [Array.getElem?_setIfInBounds_ne (show 4 ≠ 5 + i by omega), Array.getElem?_setIfInBounds_ne (show 3 ≠ 5 + i by omega), Array.getElem?_setIfInBounds_ne (show 1 ≠ 5 + i by omega)]; exact h5 i hi, by omega, by omega⟩) hne hcb).mono ?_
  rintro e w4 ⟨rfl, hm4, hR4, hN4⟩
  go_wp2
  exact bodyPost_end (v := .tuple #[]) (by simp [results, Try.results28, go_sem]) rfl ⟨rfl, ((hm1.trans hm2).trans hm3).trans hm4, hR4, hN4⟩

set_option maxHeartbeats 1000000 in
set_option maxRecDepth 100000 in
theorem walk_r2 (b c nb : Nat) (s : ByteArray) (a : Nat) (bad : Bool) (C : Array Value) (t : TypeId) (w : World)
    (h : Rd w b c s a bad) (hn : Blk w nb C t) (hne : nb ≠ b) (hcb : c ≠ nb)
    (h0 : C[0]? = some (.int .i64 2)) (h1 : C[1]? = some (.int .i64 0))
    (h2 : C[2]? = some (.int .i64 0)) (h15 : ∀ i, i < 32 → C[15 + i]? = some (.int .u8 0)) :
    Calls Try.prog 28 #[.iface 85 (.agg #[.pointer (some ⟨b, 0, none⟩)]), .pointer (some ⟨nb, 0, none⟩)] w fun e w' =>
      e = .returned (.tuple #[]) ∧ Mod (fun x => x = b ∨ x = nb) w w' ∧ (fun X : RdX => Rd w' b c s X.1.1 X.1.2 ∧ Blk w' nb X.2 t) (rdDg s 15 (rdI s 1 2 (rdI s 1 1 ((a, bad), C)))) := by
  have hm := method_r b
  have hq := ahead_r b
  have hbl := h.row.lt
  have hcl := h.box.lt
  have hnl := hn.lt
  go_enter Try.func28, Try.ntmps28
  go_wp2_with fail
  refine (whole_r 1 (.inl rfl) (by omega) b c nb 1 s a bad 0 C t _ (by omega) (by omega) h hn h1 hne hcb).mono ?_
  rintro e w1 ⟨rfl, hm1, hR1, hN1⟩
  have c0 := hN1.cell (i := 0) (v := .int .i64 2) (by rw [Array.getElem?_setIfInBounds_ne (by omega)]; exact h0)
  go_wp2_with fail
  refine (whole_r 1 (.inl rfl) (by omega) b c nb 2 s _ _ 0 _ t _ (by omega) (by omega) hR1 hN1 (by rw [Array.getElem?_setIfInBounds_ne (show 1 ≠ 2 by omega)]; exact h2) hne hcb).mono ?_
  rintro e w2 ⟨rfl, hm2, hR2, hN2⟩
  go_wp2_with fail
  refine (digest_r b c nb 15 s _ _ _ t _ hR2 hN2 (fun i hi => ⟨0, by rw [Array.getElem?_setIfInBounds_ne (show 2 ≠ 15 + i by omega), Array.getElem?_setIfInBounds_ne (show 1 ≠ 15 + i by omega)]; exact h15 i hi, by omega, by omega⟩) hne hcb).mono ?_
  rintro e w3 ⟨rfl, hm3, hR3, hN3⟩
  go_wp2
  exact bodyPost_end (v := .tuple #[]) (by simp [results, Try.results28, go_sem]) rfl ⟨rfl, (hm1.trans hm2).trans hm3, hR3, hN3⟩

set_option maxHeartbeats 1000000 in
set_option maxRecDepth 100000 in
theorem walk_r3 (b c nb : Nat) (s : ByteArray) (a : Nat) (bad : Bool) (C : Array Value) (t : TypeId) (w : World)
    (h : Rd w b c s a bad) (hn : Blk w nb C t) (hne : nb ≠ b) (hcb : c ≠ nb)
    (h0 : C[0]? = some (.int .i64 3)) (h1 : C[1]? = some (.int .i64 0))
    (h47 : C[47]? = some (.slice none 0 0)) :
    Calls Try.prog 28 #[.iface 85 (.agg #[.pointer (some ⟨b, 0, none⟩)]), .pointer (some ⟨nb, 0, none⟩)] w fun e w' =>
      e = .returned (.tuple #[]) ∧ Mod (fun x => x = b ∨ x = nb) w w' ∧ (fun X : RdX => ∃ ob N, N = (rdNum s X.1.1 X.1.2 1).toNat ∧ w.heap.size ≤ ob ∧ Rd w' b c s (mrA s X.1.1 X.1.2 N).1 (mrA s X.1.1 X.1.2 N).2 ∧
        Blk w' nb (X.2.setIfInBounds 47 (.slice (some ⟨ob, 0, none⟩) N N)) t ∧ Blk w' ob (mrRow s X.1.1 X.1.2 N N) 65) (rdI s 1 1 ((a, bad), C)) := by
  have hm := method_r b
  have hq := ahead_r b
  have hbl := h.row.lt
  have hcl := h.box.lt
  have hnl := hn.lt
  go_enter Try.func28, Try.ntmps28
  go_wp2_with fail
  refine (whole_r 1 (.inl rfl) (by omega) b c nb 1 s a bad 0 C t _ (by omega) (by omega) h hn h1 hne hcb).mono ?_
  rintro e w1 ⟨rfl, hm1, hR1, hN1⟩
  have c0 := hN1.cell (i := 0) (v := .int .i64 3) (by rw [Array.getElem?_setIfInBounds_ne (by omega)]; exact h0)
  go_wp2_with fail
  refine (marks_r b c nb 47 s _ _ _ t _ hR1 hN1 (by rw [Array.getElem?_setIfInBounds_ne (show 1 ≠ 47 by omega)]; exact h47) hne hcb).mono ?_
  rintro e w2 ⟨rfl, hm2, hR2, ob, hob, hN2, hO2⟩
  have hsz := hm1.size
  go_wp2
  exact bodyPost_end (v := .tuple #[]) (by simp [results, Try.results28, go_sem]) rfl ⟨rfl, hm1.trans hm2, ob, _, rfl, by omega, hR2, hN2, hO2⟩

set_option maxHeartbeats 1000000 in
set_option maxRecDepth 100000 in
theorem walk_r4 (b c nb : Nat) (s : ByteArray) (a : Nat) (bad : Bool) (C : Array Value) (t : TypeId) (w : World)
    (h : Rd w b c s a bad) (hn : Blk w nb C t) (hne : nb ≠ b) (hcb : c ≠ nb)
    (h0 : C[0]? = some (.int .i64 4)) (h1 : C[1]? = some (.int .i64 0))
    (h2 : C[2]? = some (.int .i64 0)) (h48 : C[48]? = some (.int .u64 0)) (h49 : C[49]? = some (.int .u64 0)) :
    Calls Try.prog 28 #[.iface 85 (.agg #[.pointer (some ⟨b, 0, none⟩)]), .pointer (some ⟨nb, 0, none⟩)] w fun e w' =>
      e = .returned (.tuple #[]) ∧ Mod (fun x => x = b ∨ x = nb) w w' ∧ (fun X : RdX => Rd w' b c s X.1.1 X.1.2 ∧ Blk w' nb X.2 t) (rdU s 8 49 (rdU s 8 48 (rdI s 1 2 (rdI s 1 1 ((a, bad), C))))) := by
  have hm := method_r b
  have hq := ahead_r b
  have hbl := h.row.lt
  have hcl := h.box.lt
  have hnl := hn.lt
  go_enter Try.func28, Try.ntmps28
  go_wp2_with fail
  refine (whole_r 1 (.inl rfl) (by omega) b c nb 1 s a bad 0 C t _ (by omega) (by omega) h hn h1 hne hcb).mono ?_
  rintro e w1 ⟨rfl, hm1, hR1, hN1⟩
  have c0 := hN1.cell (i := 0) (v := .int .i64 4) (by rw [Array.getElem?_setIfInBounds_ne (by omega)]; exact h0)
  go_wp2_with fail
  refine (whole_r 1 (.inl rfl) (by omega) b c nb 2 s _ _ 0 _ t _ (by omega) (by omega) hR1 hN1 (by rw [Array.getElem?_setIfInBounds_ne (show 1 ≠ 2 by omega)]; exact h2) hne hcb).mono ?_
  rintro e w2 ⟨rfl, hm2, hR2, hN2⟩
  go_wp2_with fail
  go_region_with (go_at_call 84; refine (rnum_calls 8 (.inr (.inr (.inr rfl))) b c nb 48 s _ _ 0 _ t _ (hR2.mod (Mod.refl (fun _ => False) _).drew (by simp) (by simp)) hN2.drew (by rw [Array.getElem?_setIfInBounds_ne (show 2 ≠ 48 by omega), Array.getElem?_setIfInBounds_ne (show 1 ≠ 48 by omega)]; exact h48) hne hcb).mono ?_; rintro e w3 ⟨rfl, hm3, hR3, hN3⟩)
  go_wp2_with fail
  go_region_with (go_at_call 84; refine (rnum_calls 8 (.inr (.inr (.inr rfl))) b c nb 49 s _ _ 0 _ t _ (hR3.mod (Mod.refl (fun _ => False) _).drew (by simp) (by simp)) hN3.drew (by rw [Array.getElem?_setIfInBounds_ne (show 48 ≠ 49 by omega), Array.getElem?_setIfInBounds_ne (show 2 ≠ 49 by omega), Array.getElem?_setIfInBounds_ne (show 1 ≠ 49 by omega)]; exact h49) hne hcb).mono ?_; rintro e w4 ⟨rfl, hm4, hR4, hN4⟩)
  go_wp2
  exact bodyPost_end (v := .tuple #[]) (by simp [results, Try.results28, go_sem]) rfl ⟨rfl, ((hm1.trans hm2).drew.trans hm3).drew.trans hm4, hR4, hN4⟩

set_option maxHeartbeats 1000000 in
set_option maxRecDepth 100000 in
theorem walk_r5 (b c nb : Nat) (s : ByteArray) (a : Nat) (bad : Bool) (C : Array Value) (t : TypeId) (w : World)
    (h : Rd w b c s a bad) (hn : Blk w nb C t) (hne : nb ≠ b) (hcb : c ≠ nb)
    (h0 : C[0]? = some (.int .i64 5)) (h1 : C[1]? = some (.int .i64 0))
    (h50 : C[50]? = some (.int .i64 0)) (h51 : C[51]? = some (.int .i64 0)) (h52 : C[52]? = some (.int .u64 0)) :
    Calls Try.prog 28 #[.iface 85 (.agg #[.pointer (some ⟨b, 0, none⟩)]), .pointer (some ⟨nb, 0, none⟩)] w fun e w' =>
      e = .returned (.tuple #[]) ∧ Mod (fun x => x = b ∨ x = nb) w w' ∧ (fun X : RdX => Rd w' b c s X.1.1 X.1.2 ∧ Blk w' nb X.2 t) (rdU s 8 52 (rdW s 1 51 (rdI s 1 50 (rdI s 1 1 ((a, bad), C))))) := by
  have hm := method_r b
  have hq := ahead_r b
  have hbl := h.row.lt
  have hcl := h.box.lt
  have hnl := hn.lt
  go_enter Try.func28, Try.ntmps28
  go_wp2_with fail
  refine (whole_r 1 (.inl rfl) (by omega) b c nb 1 s a bad 0 C t _ (by omega) (by omega) h hn h1 hne hcb).mono ?_
  rintro e w1 ⟨rfl, hm1, hR1, hN1⟩
  have c0 := hN1.cell (i := 0) (v := .int .i64 5) (by rw [Array.getElem?_setIfInBounds_ne (by omega)]; exact h0)
  go_wp2_with fail
  refine (whole_r 1 (.inl rfl) (by omega) b c nb 50 s _ _ 0 _ t _ (by omega) (by omega) hR1 hN1 (by rw [Array.getElem?_setIfInBounds_ne (show 1 ≠ 50 by omega)]; exact h50) hne hcb).mono ?_
  rintro e w2 ⟨rfl, hm2, hR2, hN2⟩
  have c51 := hN2.cell (i := 51) (v := .int .i64 0) (by rw [Array.getElem?_setIfInBounds_ne (show 50 ≠ 51 by omega), Array.getElem?_setIfInBounds_ne (show 1 ≠ 51 by omega)]; exact h51)
  have hbl2 := hR2.row.lt
  have hcl2 := hR2.box.lt
  have hnl2 := hN2.lt
  go_wp2_with fail
  refine (whole_r 1 (.inl rfl) (by omega) b c w2.heap.size 0 s _ _ 1 #[.int .i64 1] 3 _ (by omega) (by omega) (hR2.mod ((Mod.refl (fun _ => False) _).alloc _) (by simp) (by simp)) (Blk.new w2 _ _) rfl (by omega) (by omega)).mono ?_
  rintro e w3 ⟨rfl, hm3, hR3, hB3⟩
  have hN3 := (hN2.alloc (.cells #[.int .i64 1] 3)).mod hm3 (by omega)
  have c3 := hB3.cell (i := 0) rfl
  have d51 := hN3.cell (i := 51) (v := .int .i64 0) (by rw [Array.getElem?_setIfInBounds_ne (show 50 ≠ 51 by omega), Array.getElem?_setIfInBounds_ne (show 1 ≠ 51 by omega)]; exact h51)
  have e51 := hN3.froz 51
  obtain ⟨v, hv⟩ : ∃ v, rdNum s (rdAt s (rdAt s a bad 1) (rdBad s a bad 1) 1) (rdBad s (rdAt s a bad 1) (rdBad s a bad 1) 1) 1 = v := ⟨_, rfl⟩
  have hvb := rdNum_bd s (rdAt s (rdAt s a bad 1) (rdBad s a bad 1) 1) (rdBad s (rdAt s a bad 1) (rdBad s a bad 1) 1) 1
  rw [hv] at c3 hvb
  replace hv := Lib.hid hv
  have hsub : v - 1 = v - 1 := rfl
  go_wp2_with fail
  have hN4 := hN3.set 51 (.int .i64 (v - 1))
  have hR4 : Rd (w3.setCell ⟨nb, 51, none⟩ (.int .i64 (v - 1))) b c s _ _ := ⟨hR3.row.other (Ne.symm hne) _, hR3.box.other hcb _, hR3.small, hR3.inn⟩
  go_region_with (go_at_call 84; refine (rnum_calls 8 (.inr (.inr (.inr rfl))) b c nb 52 s _ _ 0 _ t _ (hR4.mod (Mod.refl (fun _ => False) _).drew (by simp) (by simp)) hN4.drew (by rw [Array.getElem?_setIfInBounds_ne (show 51 ≠ 52 by omega), Array.getElem?_setIfInBounds_ne (show 50 ≠ 52 by omega), Array.getElem?_setIfInBounds_ne (show 1 ≠ 52 by omega)]; exact h52) hne hcb).mono ?_; rintro e w5 ⟨rfl, hm5, hR5, hN5⟩)
  go_wp2
  obtain rfl := hv.out
  exact bodyPost_end (v := .tuple #[]) (by simp [results, Try.results28, go_sem]) rfl ⟨rfl, (((hm1.trans hm2).trans ((hm3.widen (T := fun x => (x = b ∨ x = nb) ∨ x = w2.heap.size) (by intro k h; omega)).from_new)).setCell (fun _ => .inr rfl) _).drew.trans hm5, hR5, hN5⟩
end Go.Proofs.Ytcipdimnbleljaa
