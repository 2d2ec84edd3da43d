/-
  Layer 18 (msg): request, with a writer and with a reader.
-/
import Derived.Test.YtcipdimnbleljaaWh
namespace Go.Proofs.Ytcipdimnbleljaa
open Go.RowKit

/-- a number behind a text -/
def addN (s : ByteArray) (n : Int) (k : Nat) : ByteArray := s ++ strOfNums (be n k)
theorem addN_size (s : ByteArray) (n : Int) (k : Nat) : (addN s n k).size = s.size + k := by
  rw [addN, ByteArray.size_append, strOfNums_size, be_length]

/-- the widths of a request's numbers -/
def rqW (i : Nat) : Nat := if i < 4 then 2 else if i < 8 then 4 else 2
/-- the bytes of a request's first k numbers -/
def rqStr (s : ByteArray) (x : Nat → Int) : Nat → ByteArray
  | 0 => s
  | k + 1 => addN (rqStr s x k) (x k) (rqW k)
theorem rqStr_size (s : ByteArray) (x : Nat → Int) (k : Nat) : (rqStr s x k).size ≤ s.size + 4 * k := by
  induction k with
  | zero => simp [rqStr]
  | succ k ih => rw [rqStr, addN_size]; have : rqW k ≤ 4 := by unfold rqW; split <;> (try split) <;> omega
                 omega
/-- where the reader stands behind k numbers of a request -/
def rqA (s : ByteArray) (a : Nat) (bad : Bool) : Nat → Nat × Bool
  | 0 => (a, bad)
  | k + 1 => (rdAt s (rqA s a bad k).1 (rqA s a bad k).2 (rqW k), rdBad s (rqA s a bad k).1 (rqA s a bad k).2 (rqW k))
/-- the k-th of them -/
def rqV (s : ByteArray) (a : Nat) (bad : Bool) (k : Nat) : Int := rdNum s (rqA s a bad k).1 (rqA s a bad k).2 (rqW k)
def rqRow (s : ByteArray) (a : Nat) (bad : Bool) (C : Array Value) (o : Nat) : Nat → Array Value
  | 0 => C
  | k + 1 => (rqRow s a bad C o k).setIfInBounds (o + k) (.int .i64 (rqV s a bad k))
theorem rqRow_size (s : ByteArray) (a : Nat) (bad : Bool) (C : Array Value) (o k : Nat) : (rqRow s a bad C o k).size = C.size := by
  induction k with
  | zero => rfl
  | succ k ih => simp [rqRow, ih]
theorem rqRow_get (s : ByteArray) (a : Nat) (bad : Bool) (C : Array Value) (o k i : Nat) :
    (rqRow s a bad C o k)[i]? = if o ≤ i ∧ i < o + k ∧ i < C.size then some (.int .i64 (rqV s a bad (i - o))) else C[i]? := by
  induction k with
  | zero => simp only [rqRow]; rw [if_neg (by omega)]
  | succ k ih =>
    rw [rqRow, Array.getElem?_setIfInBounds, rqRow_size, ih]
    by_cases h1 : o + k = i
    · subst h1
      by_cases h2 : o + k < C.size
      · simp [h2]
      · simp [h2]
    · rw [if_neg h1]
      by_cases h2 : o ≤ i ∧ i < o + k ∧ i < C.size
      · rw [if_pos h2, if_pos (by omega)]
      · rw [if_neg h2, if_neg (by omega)]

set_option maxHeartbeats 2000000 in
set_option maxRecDepth 100000 in
theorem request_w (wb nb o : Nat) (s : ByteArray) (x : Nat → Int) (C : Array Value) (t : TypeId) (w : World) (hs : s.size ≤ 140737488351000) (hx : ∀ i, i < 10 → 0 ≤ x i ∧ x i < 256 ^ rqW i)
    (hw : Blk w wb #[.string s] 75) (hn : Blk w nb C t) (hc : ∀ i, i < 10 → C[o + i]? = some (.int .i64 (x i))) (hne : nb ≠ wb) :
    Calls Try.prog 41 #[.iface 73 (.pointer (some ⟨wb, 0, none⟩)), .pointer (some ⟨nb, o, none⟩)] w fun e w' =>
      e = .returned (.tuple #[]) ∧ Mod (· = wb) w w' ∧ Blk w' wb #[.string (rqStr s x 10)] 75 := by
  have hsz : ∀ k, k ≤ 10 → (rqStr s x k).size ≤ 140737488351232 := fun k hk => by have := rqStr_size s x k; omega
  have hwl := hw.lt
  have hnl := hn.lt
  go_enter Try.func41, Try.ntmps41
  go_wp2_with fail
  have hW0 : Blk w wb #[.string (rqStr s x 0)] 75 := hw
  have hN0 := hn
  have hM0 : Mod (· = wb) w w := Mod.refl _ _
  go_region
  have hlb : wb ≠ w.heap.size ∧ nb ≠ w.heap.size := by have := hM0.size; constructor <;> omega
  have hL : Blk (w.alloc (.cells #[.pointer (some ⟨nb, o, none⟩), .pointer (some ⟨nb, o + 1, none⟩), .pointer (some ⟨nb, o + 2, none⟩), .pointer (some ⟨nb, o + 2 + 1, none⟩)] 98)).drew w.heap.size #[.pointer (some ⟨nb, o, none⟩), .pointer (some ⟨nb, o + 1, none⟩), .pointer (some ⟨nb, o + 2, none⟩), .pointer (some ⟨nb, o + 2 + 1, none⟩)] 98 := (Blk.new _ _ _).drew
  replace hW0 := (hW0.alloc (.cells #[.pointer (some ⟨nb, o, none⟩), .pointer (some ⟨nb, o + 1, none⟩), .pointer (some ⟨nb, o + 2, none⟩), .pointer (some ⟨nb, o + 2 + 1, none⟩)] 98)).drew
  replace hN0 := (hN0.alloc (.cells #[.pointer (some ⟨nb, o, none⟩), .pointer (some ⟨nb, o + 1, none⟩), .pointer (some ⟨nb, o + 2, none⟩), .pointer (some ⟨nb, o + 2 + 1, none⟩)] 98)).drew
  replace hM0 := (hM0.alloc (.cells #[.pointer (some ⟨nb, o, none⟩), .pointer (some ⟨nb, o + 1, none⟩), .pointer (some ⟨nb, o + 2, none⟩), .pointer (some ⟨nb, o + 2 + 1, none⟩)] 98)).drew
  have q := hL.cell (i := 0) rfl
  go_wp2_with fail
  refine wp_loop_rounds 5 ?_
  rw [rounds_succ]; go_wp2_with fail
  refine (whole_w 2 (.inr (.inl rfl)) (by omega) wb nb (o) _ (x 0) C t _ (hsz 0 (by omega)) (hx 0 (by omega)).1 (hx 0 (by omega)).2 hW0 hN0 (hc 0 (by omega)) hne).mono ?_
  rintro e w1 ⟨rfl, hm1, hW1⟩
  have hN1 := hN0.mod hm1 hne
  have hM1 := hM0.trans hm1
  clear hW0 hN0 hM0
  replace hW1 : Blk w1 wb #[.string (rqStr s x 1)] 75 := hW1
  replace hL := hL.mod hm1 (by omega)
  clear q hm1
  go_wp2_with fail
  have q := hL.cell (i := 1) rfl
  rw [rounds_succ]; go_wp2_with fail
  refine (whole_w 2 (.inr (.inl rfl)) (by omega) wb nb (o + 1) _ (x 1) C t _ (hsz 1 (by omega)) (hx 1 (by omega)).1 (hx 1 (by omega)).2 hW1 hN1 (hc 1 (by omega)) hne).mono ?_
  rintro e w2 ⟨rfl, hm2, hW2⟩
  have hN2 := hN1.mod hm2 hne
  have hM2 := hM1.trans hm2
  clear hW1 hN1 hM1
  replace hW2 : Blk w2 wb #[.string (rqStr s x 2)] 75 := hW2
  replace hL := hL.mod hm2 (by omega)
  clear q hm2
  go_wp2_with fail
  have q := hL.cell (i := 2) rfl
  rw [rounds_succ]; go_wp2_with fail
  refine (whole_w 2 (.inr (.inl rfl)) (by omega) wb nb (o + 2) _ (x 2) C t _ (hsz 2 (by omega)) (hx 2 (by omega)).1 (hx 2 (by omega)).2 hW2 hN2 (hc 2 (by omega)) hne).mono ?_
  rintro e w3 ⟨rfl, hm3, hW3⟩
  have hN3 := hN2.mod hm3 hne
  have hM3 := hM2.trans hm3
  clear hW2 hN2 hM2
  replace hW3 : Blk w3 wb #[.string (rqStr s x 3)] 75 := hW3
  replace hL := hL.mod hm3 (by omega)
  clear q hm3
  go_wp2_with fail
  have q := hL.cell (i := 3) rfl
  rw [rounds_succ]; go_wp2_with fail
  refine (whole_w 2 (.inr (.inl rfl)) (by omega) wb nb (o + 2 + 1) _ (x 3) C t _ (hsz 3 (by omega)) (hx 3 (by omega)).1 (hx 3 (by omega)).2 hW3 hN3 (hc 3 (by omega)) hne).mono ?_
  rintro e w4 ⟨rfl, hm4, hW4⟩
  have hN4 := hN3.mod hm4 hne
  have hM4 := hM3.trans hm4
  clear hW3 hN3 hM3
  replace hW4 : Blk w4 wb #[.string (rqStr s x 4)] 75 := hW4
  replace hL := hL.mod hm4 (by omega)
  clear q hm4
  go_wp2_with fail
  rw [rounds_succ]; go_wp2_with fail
  clear hL hlb
  go_region
  have hlb : wb ≠ w4.heap.size ∧ nb ≠ w4.heap.size := by have := hM4.size; constructor <;> omega
  have hL : Blk (w4.alloc (.cells #[.pointer (some ⟨nb, o + 4, none⟩), .pointer (some ⟨nb, o + 4 + 1, none⟩), .pointer (some ⟨nb, o + 6, none⟩), .pointer (some ⟨nb, o + 6 + 1, none⟩)] 98)).drew w4.heap.size #[.pointer (some ⟨nb, o + 4, none⟩), .pointer (some ⟨nb, o + 4 + 1, none⟩), .pointer (some ⟨nb, o + 6, none⟩), .pointer (some ⟨nb, o + 6 + 1, none⟩)] 98 := (Blk.new _ _ _).drew
  replace hW4 := (hW4.alloc (.cells #[.pointer (some ⟨nb, o + 4, none⟩), .pointer (some ⟨nb, o + 4 + 1, none⟩), .pointer (some ⟨nb, o + 6, none⟩), .pointer (some ⟨nb, o + 6 + 1, none⟩)] 98)).drew
  replace hN4 := (hN4.alloc (.cells #[.pointer (some ⟨nb, o + 4, none⟩), .pointer (some ⟨nb, o + 4 + 1, none⟩), .pointer (some ⟨nb, o + 6, none⟩), .pointer (some ⟨nb, o + 6 + 1, none⟩)] 98)).drew
  replace hM4 := (hM4.alloc (.cells #[.pointer (some ⟨nb, o + 4, none⟩), .pointer (some ⟨nb, o + 4 + 1, none⟩), .pointer (some ⟨nb, o + 6, none⟩), .pointer (some ⟨nb, o + 6 + 1, none⟩)] 98)).drew
  have q := hL.cell (i := 0) rfl
  go_wp2_with fail
  refine wp_loop_rounds 5 ?_
  rw [rounds_succ]; go_wp2_with fail
  refine (whole_w 4 (.inr (.inr (.inl rfl))) (by omega) wb nb (o + 4) _ (x 4) C t _ (hsz 4 (by omega)) (hx 4 (by omega)).1 (hx 4 (by omega)).2 hW4 hN4 (hc 4 (by omega)) hne).mono ?_
  rintro e w5 ⟨rfl, hm5, hW5⟩
  have hN5 := hN4.mod hm5 hne
  have hM5 := hM4.trans hm5
  clear hW4 hN4 hM4
  replace hW5 : Blk w5 wb #[.string (rqStr s x 5)] 75 := hW5
  replace hL := hL.mod hm5 (by omega)
  clear q hm5
  go_wp2_with fail
  have q := hL.cell (i := 1) rfl
  rw [rounds_succ]; go_wp2_with fail
  refine (whole_w 4 (.inr (.inr (.inl rfl))) (by omega) wb nb (o + 4 + 1) _ (x 5) C t _ (hsz 5 (by omega)) (hx 5 (by omega)).1 (hx 5 (by omega)).2 hW5 hN5 (hc 5 (by omega)) hne).mono ?_
  rintro e w6 ⟨rfl, hm6, hW6⟩
  have hN6 := hN5.mod hm6 hne
  have hM6 := hM5.trans hm6
  clear hW5 hN5 hM5
  replace hW6 : Blk w6 wb #[.string (rqStr s x 6)] 75 := hW6
  replace hL := hL.mod hm6 (by omega)
  clear q hm6
  go_wp2_with fail
  have q := hL.cell (i := 2) rfl
  rw [rounds_succ]; go_wp2_with fail
  refine (whole_w 4 (.inr (.inr (.inl rfl))) (by omega) wb nb (o + 6) _ (x 6) C t _ (hsz 6 (by omega)) (hx 6 (by omega)).1 (hx 6 (by omega)).2 hW6 hN6 (hc 6 (by omega)) hne).mono ?_
  rintro e w7 ⟨rfl, hm7, hW7⟩
  have hN7 := hN6.mod hm7 hne
  have hM7 := hM6.trans hm7
  clear hW6 hN6 hM6
  replace hW7 : Blk w7 wb #[.string (rqStr s x 7)] 75 := hW7
  replace hL := hL.mod hm7 (by omega)
  clear q hm7
  go_wp2_with fail
  have q := hL.cell (i := 3) rfl
  rw [rounds_succ]; go_wp2_with fail
  refine (whole_w 4 (.inr (.inr (.inl rfl))) (by omega) wb nb (o + 6 + 1) _ (x 7) C t _ (hsz 7 (by omega)) (hx 7 (by omega)).1 (hx 7 (by omega)).2 hW7 hN7 (hc 7 (by omega)) hne).mono ?_
  rintro e w8 ⟨rfl, hm8, hW8⟩
  have hN8 := hN7.mod hm8 hne
  have hM8 := hM7.trans hm8
  clear hW7 hN7 hM7
  replace hW8 : Blk w8 wb #[.string (rqStr s x 8)] 75 := hW8
  replace hL := hL.mod hm8 (by omega)
  clear q hm8
  go_wp2_with fail
  rw [rounds_succ]; go_wp2_with fail
  clear hL hlb
  refine (whole_w 2 (.inr (.inl rfl)) (by omega) wb nb (o + 8) _ (x 8) C t _ (hsz 8 (by omega)) (hx 8 (by omega)).1 (hx 8 (by omega)).2 hW8 hN8 (hc 8 (by omega)) hne).mono ?_
  rintro e w9 ⟨rfl, hm9, hW9⟩
  have hN9 := hN8.mod hm9 hne
  have hM9 := hM8.trans hm9
  clear hW8 hN8 hM8
  replace hW9 : Blk w9 wb #[.string (rqStr s x 9)] 75 := hW9
  clear hm9
  go_wp2_with fail
  refine (whole_w 2 (.inr (.inl rfl)) (by omega) wb nb (o + 9) _ (x 9) C t _ (hsz 9 (by omega)) (hx 9 (by omega)).1 (hx 9 (by omega)).2 hW9 hN9 (hc 9 (by omega)) hne).mono ?_
  rintro e w10 ⟨rfl, hm10, hW10⟩
  have hN10 := hN9.mod hm10 hne
  have hM10 := hM9.trans hm10
  clear hW9 hN9 hM9
  replace hW10 : Blk w10 wb #[.string (rqStr s x 10)] 75 := hW10
  clear hm10
  go_wp2
  exact bodyPost_end (v := .tuple #[]) (by simp [results, Try.results41, go_sem]) rfl ⟨rfl, hM10, hW10⟩

set_option maxHeartbeats 2000000 in
set_option maxRecDepth 100000 in
theorem request_r (b c nb o : Nat) (s : ByteArray) (a : Nat) (bad : Bool) (C : Array Value) (t : TypeId) (w : World)
    (h : Rd w b c s a bad) (hn : Blk w nb C t) (hc : ∀ i, i < 10 → ∃ x : Int, C[o + i]? = some (.int .i64 x) ∧ 0 ≤ x ∧ x < 9223372036854775808) (hne : nb ≠ b) (hcb : c ≠ nb) :
    Calls Try.prog 41 #[.iface 85 (.agg #[.pointer (some ⟨b, 0, none⟩)]), .pointer (some ⟨nb, o, none⟩)] w fun e w' =>
      e = .returned (.tuple #[]) ∧ Mod (fun x => x = b ∨ x = nb) w w' ∧ Rd w' b c s (rqA s a bad 10).1 (rqA s a bad 10).2 ∧ Blk w' nb (rqRow s a bad C o 10) t := by
  have hbl := h.row.lt
  have hcl := h.box.lt
  have hnl := hn.lt
  go_enter Try.func41, Try.ntmps41
  go_wp2_with fail
  have hR0 : Rd w b c s (rqA s a bad 0).1 (rqA s a bad 0).2 := h
  have hN0 : Blk w nb (rqRow s a bad C o 0) t := hn
  have hM0 : Mod (fun x => x = b ∨ x = nb) w w := Mod.refl _ _
  go_region
  have hlb : b ≠ w.heap.size ∧ c ≠ w.heap.size ∧ nb ≠ w.heap.size := by have := hM0.size; refine ⟨?_, ?_, ?_⟩ <;> omega
  have hL : Blk (w.alloc (.cells #[.pointer (some ⟨nb, o, none⟩), .pointer (some ⟨nb, o + 1, none⟩), .pointer (some ⟨nb, o + 2, none⟩), .pointer (some ⟨nb, o + 2 + 1, none⟩)] 98)).drew w.heap.size #[.pointer (some ⟨nb, o, none⟩), .pointer (some ⟨nb, o + 1, none⟩), .pointer (some ⟨nb, o + 2, none⟩), .pointer (some ⟨nb, o + 2 + 1, none⟩)] 98 := (Blk.new _ _ _).drew
  replace hR0 : Rd (w.alloc (.cells #[.pointer (some ⟨nb, o, none⟩), .pointer (some ⟨nb, o + 1, none⟩), .pointer (some ⟨nb, o + 2, none⟩), .pointer (some ⟨nb, o + 2 + 1, none⟩)] 98)).drew b c s (rqA s a bad 0).1 (rqA s a bad 0).2 := hR0.mod (((Mod.refl (fun _ => False) _).alloc _).drew) (by simp) (by simp)
  replace hN0 := (hN0.alloc (.cells #[.pointer (some ⟨nb, o, none⟩), .pointer (some ⟨nb, o + 1, none⟩), .pointer (some ⟨nb, o + 2, none⟩), .pointer (some ⟨nb, o + 2 + 1, none⟩)] 98)).drew
  replace hM0 := (hM0.alloc (.cells #[.pointer (some ⟨nb, o, none⟩), .pointer (some ⟨nb, o + 1, none⟩), .pointer (some ⟨nb, o + 2, none⟩), .pointer (some ⟨nb, o + 2 + 1, none⟩)] 98)).drew
  have q := hL.cell (i := 0) rfl
  go_wp2_with fail
  refine wp_loop_rounds 5 ?_
  rw [rounds_succ]; go_wp2_with fail
  obtain ⟨y, hy, hy0, hy1⟩ := hc 0 (by omega)
  have hyc : (rqRow s a bad C o 0)[o]? = some (.int .i64 y) := by rw [rqRow_get, if_neg (by omega)]; exact hy
  refine (whole_r 2 (.inr (.inl rfl)) (by omega) b c nb (o) s _ _ y _ t _ hy0 hy1 hR0 hN0 hyc hne hcb).mono ?_
  rintro e w1 ⟨rfl, hm1, hR1, hN1⟩
  have hM1 := hM0.trans hm1
  clear hR0 hN0 hM0 y hy hy0 hy1 hyc
  replace hR1 : Rd w1 b c s (rqA s a bad 1).1 (rqA s a bad 1).2 := hR1
  replace hN1 : Blk w1 nb (rqRow s a bad C o 1) t := hN1
  replace hL := hL.mod hm1 (by omega)
  clear q hm1
  go_wp2_with fail
  have q := hL.cell (i := 1) rfl
  rw [rounds_succ]; go_wp2_with fail
  obtain ⟨y, hy, hy0, hy1⟩ := hc 1 (by omega)
  have hyc : (rqRow s a bad C o 1)[o + 1]? = some (.int .i64 y) := by rw [rqRow_get, if_neg (by omega)]; exact hy
  refine (whole_r 2 (.inr (.inl rfl)) (by omega) b c nb (o + 1) s _ _ y _ t _ hy0 hy1 hR1 hN1 hyc hne hcb).mono ?_
  rintro e w2 ⟨rfl, hm2, hR2, hN2⟩
  have hM2 := hM1.trans hm2
  clear hR1 hN1 hM1 y hy hy0 hy1 hyc
  replace hR2 : Rd w2 b c s (rqA s a bad 2).1 (rqA s a bad 2).2 := hR2
  replace hN2 : Blk w2 nb (rqRow s a bad C o 2) t := hN2
  replace hL := hL.mod hm2 (by omega)
  clear q hm2
  go_wp2_with fail
  have q := hL.cell (i := 2) rfl
  rw [rounds_succ]; go_wp2_with fail
  obtain ⟨y, hy, hy0, hy1⟩ := hc 2 (by omega)
  have hyc : (rqRow s a bad C o 2)[o + 2]? = some (.int .i64 y) := by rw [rqRow_get, if_neg (by omega)]; exact hy
  refine (whole_r 2 (.inr (.inl rfl)) (by omega) b c nb (o + 2) s _ _ y _ t _ hy0 hy1 hR2 hN2 hyc hne hcb).mono ?_
  rintro e w3 ⟨rfl, hm3, hR3, hN3⟩
  have hM3 := hM2.trans hm3
  clear hR2 hN2 hM2 y hy hy0 hy1 hyc
  replace hR3 : Rd w3 b c s (rqA s a bad 3).1 (rqA s a bad 3).2 := hR3
  replace hN3 : Blk w3 nb (rqRow s a bad C o 3) t := hN3
  replace hL := hL.mod hm3 (by omega)
  clear q hm3
  go_wp2_with fail
  have q := hL.cell (i := 3) rfl
  rw [rounds_succ]; go_wp2_with fail
  obtain ⟨y, hy, hy0, hy1⟩ := hc 3 (by omega)
  have hyc : (rqRow s a bad C o 3)[o + 2 + 1]? = some (.int .i64 y) := by rw [rqRow_get, if_neg (by omega)]; exact hy
  refine (whole_r 2 (.inr (.inl rfl)) (by omega) b c nb (o + 2 + 1) s _ _ y _ t _ hy0 hy1 hR3 hN3 hyc hne hcb).mono ?_
  rintro e w4 ⟨rfl, hm4, hR4, hN4⟩
  have hM4 := hM3.trans hm4
  clear hR3 hN3 hM3 y hy hy0 hy1 hyc
  replace hR4 : Rd w4 b c s (rqA s a bad 4).1 (rqA s a bad 4).2 := hR4
  replace hN4 : Blk w4 nb (rqRow s a bad C o 4) t := hN4
  replace hL := hL.mod hm4 (by omega)
  clear q hm4
  go_wp2_with fail
  rw [rounds_succ]; go_wp2_with fail
  clear hL hlb
  go_region
  have hlb : b ≠ w4.heap.size ∧ c ≠ w4.heap.size ∧ nb ≠ w4.heap.size := by have := hM4.size; refine ⟨?_, ?_, ?_⟩ <;> omega
  have hL : Blk (w4.alloc (.cells #[.pointer (some ⟨nb, o + 4, none⟩), .pointer (some ⟨nb, o + 4 + 1, none⟩), .pointer (some ⟨nb, o + 6, none⟩), .pointer (some ⟨nb, o + 6 + 1, none⟩)] 98)).drew w4.heap.size #[.pointer (some ⟨nb, o + 4, none⟩), .pointer (some ⟨nb, o + 4 + 1, none⟩), .pointer (some ⟨nb, o + 6, none⟩), .pointer (some ⟨nb, o + 6 + 1, none⟩)] 98 := (Blk.new _ _ _).drew
  replace hR4 : Rd (w4.alloc (.cells #[.pointer (some ⟨nb, o + 4, none⟩), .pointer (some ⟨nb, o + 4 + 1, none⟩), .pointer (some ⟨nb, o + 6, none⟩), .pointer (some ⟨nb, o + 6 + 1, none⟩)] 98)).drew b c s (rqA s a bad 4).1 (rqA s a bad 4).2 := hR4.mod (((Mod.refl (fun _ => False) _).alloc _).drew) (by simp) (by simp)
  replace hN4 := (hN4.alloc (.cells #[.pointer (some ⟨nb, o + 4, none⟩), .pointer (some ⟨nb, o + 4 + 1, none⟩), .pointer (some ⟨nb, o + 6, none⟩), .pointer (some ⟨nb, o + 6 + 1, none⟩)] 98)).drew
  replace hM4 := (hM4.alloc (.cells #[.pointer (some ⟨nb, o + 4, none⟩), .pointer (some ⟨nb, o + 4 + 1, none⟩), .pointer (some ⟨nb, o + 6, none⟩), .pointer (some ⟨nb, o + 6 + 1, none⟩)] 98)).drew
  have q := hL.cell (i := 0) rfl
  go_wp2_with fail
  refine wp_loop_rounds 5 ?_
  rw [rounds_succ]; go_wp2_with fail
  obtain ⟨y, hy, hy0, hy1⟩ := hc 4 (by omega)
  have hyc : (rqRow s a bad C o 4)[o + 4]? = some (.int .i64 y) := by rw [rqRow_get, if_neg (by omega)]; exact hy
  refine (whole_r 4 (.inr (.inr (.inl rfl))) (by omega) b c nb (o + 4) s _ _ y _ t _ hy0 hy1 hR4 hN4 hyc hne hcb).mono ?_
  rintro e w5 ⟨rfl, hm5, hR5, hN5⟩
  have hM5 := hM4.trans hm5
  clear hR4 hN4 hM4 y hy hy0 hy1 hyc
  replace hR5 : Rd w5 b c s (rqA s a bad 5).1 (rqA s a bad 5).2 := hR5
  replace hN5 : Blk w5 nb (rqRow s a bad C o 5) t := hN5
  replace hL := hL.mod hm5 (by omega)
  clear q hm5
  go_wp2_with fail
  have q := hL.cell (i := 1) rfl
  rw [rounds_succ]; go_wp2_with fail
  obtain ⟨y, hy, hy0, hy1⟩ := hc 5 (by omega)
  have hyc : (rqRow s a bad C o 5)[o + 4 + 1]? = some (.int .i64 y) := by rw [rqRow_get, if_neg (by omega)]; exact hy
  refine (whole_r 4 (.inr (.inr (.inl rfl))) (by omega) b c nb (o + 4 + 1) s _ _ y _ t _ hy0 hy1 hR5 hN5 hyc hne hcb).mono ?_
  rintro e w6 ⟨rfl, hm6, hR6, hN6⟩
  have hM6 := hM5.trans hm6
  clear hR5 hN5 hM5 y hy hy0 hy1 hyc
  replace hR6 : Rd w6 b c s (rqA s a bad 6).1 (rqA s a bad 6).2 := hR6
  replace hN6 : Blk w6 nb (rqRow s a bad C o 6) t := hN6
  replace hL := hL.mod hm6 (by omega)
  clear q hm6
  go_wp2_with fail
  have q := hL.cell (i := 2) rfl
  rw [rounds_succ]; go_wp2_with fail
  obtain ⟨y, hy, hy0, hy1⟩ := hc 6 (by omega)
  have hyc : (rqRow s a bad C o 6)[o + 6]? = some (.int .i64 y) := by rw [rqRow_get, if_neg (by omega)]; exact hy
  refine (whole_r 4 (.inr (.inr (.inl rfl))) (by omega) b c nb (o + 6) s _ _ y _ t _ hy0 hy1 hR6 hN6 hyc hne hcb).mono ?_
  rintro e w7 ⟨rfl, hm7, hR7, hN7⟩
  have hM7 := hM6.trans hm7
  clear hR6 hN6 hM6 y hy hy0 hy1 hyc
  replace hR7 : Rd w7 b c s (rqA s a bad 7).1 (rqA s a bad 7).2 := hR7
  replace hN7 : Blk w7 nb (rqRow s a bad C o 7) t := hN7
  replace hL := hL.mod hm7 (by omega)
  clear q hm7
  go_wp2_with fail
  have q := hL.cell (i := 3) rfl
  rw [rounds_succ]; go_wp2_with fail
  obtain ⟨y, hy, hy0, hy1⟩ := hc 7 (by omega)
  have hyc : (rqRow s a bad C o 7)[o + 6 + 1]? = some (.int .i64 y) := by rw [rqRow_get, if_neg (by omega)]; exact hy
  refine (whole_r 4 (.inr (.inr (.inl rfl))) (by omega) b c nb (o + 6 + 1) s _ _ y _ t _ hy0 hy1 hR7 hN7 hyc hne hcb).mono ?_
  rintro e w8 ⟨rfl, hm8, hR8, hN8⟩
  have hM8 := hM7.trans hm8
  clear hR7 hN7 hM7 y hy hy0 hy1 hyc
  replace hR8 : Rd w8 b c s (rqA s a bad 8).1 (rqA s a bad 8).2 := hR8
  replace hN8 : Blk w8 nb (rqRow s a bad C o 8) t := hN8
  replace hL := hL.mod hm8 (by omega)
  clear q hm8
  go_wp2_with fail
  rw [rounds_succ]; go_wp2_with fail
  clear hL hlb
  obtain ⟨y, hy, hy0, hy1⟩ := hc 8 (by omega)
  have hyc : (rqRow s a bad C o 8)[o + 8]? = some (.int .i64 y) := by rw [rqRow_get, if_neg (by omega)]; exact hy
  refine (whole_r 2 (.inr (.inl rfl)) (by omega) b c nb (o + 8) s _ _ y _ t _ hy0 hy1 hR8 hN8 hyc hne hcb).mono ?_
  rintro e w9 ⟨rfl, hm9, hR9, hN9⟩
  have hM9 := hM8.trans hm9
  clear hR8 hN8 hM8 y hy hy0 hy1 hyc
  replace hR9 : Rd w9 b c s (rqA s a bad 9).1 (rqA s a bad 9).2 := hR9
  replace hN9 : Blk w9 nb (rqRow s a bad C o 9) t := hN9
  clear hm9
  go_wp2_with fail
  obtain ⟨y, hy, hy0, hy1⟩ := hc 9 (by omega)
  have hyc : (rqRow s a bad C o 9)[o + 9]? = some (.int .i64 y) := by rw [rqRow_get, if_neg (by omega)]; exact hy
  refine (whole_r 2 (.inr (.inl rfl)) (by omega) b c nb (o + 9) s _ _ y _ t _ hy0 hy1 hR9 hN9 hyc hne hcb).mono ?_
  rintro e w10 ⟨rfl, hm10, hR10, hN10⟩
  have hM10 := hM9.trans hm10
  clear hR9 hN9 hM9 y hy hy0 hy1 hyc
  replace hR10 : Rd w10 b c s (rqA s a bad 10).1 (rqA s a bad 10).2 := hR10
  replace hN10 : Blk w10 nb (rqRow s a bad C o 10) t := hN10
  clear hm10
  go_wp2
  exact bodyPost_end (v := .tuple #[]) (by simp [results, Try.results41, go_sem]) rfl ⟨rfl, hM10, hR10, hN10⟩
end Go.Proofs.Ytcipdimnbleljaa
