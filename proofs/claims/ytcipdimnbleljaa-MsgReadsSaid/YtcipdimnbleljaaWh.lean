/-
  Layer 18 (msg): a number, with a writer and with a reader.
  Layer 18 (msg): whole, with a writer and with a reader.
  Layer 18 (msg): digest, with a writer and with a reader.
-/
import Derived.Test.YtcipdimnbleljaaNum
namespace Go.Proofs.Ytcipdimnbleljaa
open Go.RowKit

/-- the bytes of a number, the greatest first -/
def be (n : Int) : Nat → List Int
  | 0 => []
  | k + 1 => be (n / 256) k ++ [n % 256]
theorem be_length (n : Int) (k : Nat) : (be n k).length = k := by
  induction k generalizing n with
  | zero => rfl
  | succ k ih => simp [be, ih]

/-- the widths that there are -/
def Wd (k : Nat) : Prop := k = 1 ∨ k = 2 ∨ k = 4 ∨ k = 8

theorem put_calls (k : Nat) (hk : Wd k) (s : ByteArray) (n : Int) (w : World) (hs : s.size ≤ 140737488351232) (h0 : 0 ≤ n) (h1 : n < 256 ^ k) :
    Calls Try.prog 82 #[.string s, .int .u64 n, .int .i64 k] w fun e w' => e = .returned (.tuple #[.string (s ++ strOfNums (be n k)), .int .i64 0]) ∧ Below w.heap.size w w' := by
  rcases hk with rfl | rfl | rfl | rfl
  · have e : be n 1 = [n] := by simp [be]; omega
    rw [e]; exact put1_calls s n w hs h0 (by simpa using h1)
  · have e : be n 2 = [n / 256, n % 256] := by simp [be]; omega
    rw [e]; exact put2_calls s n w hs h0 (by simpa using h1)
  · have e : be n 4 = [n / 16777216, n / 65536 % 256, n / 256 % 256, n % 256] := by simp [be]; omega
    rw [e]; exact put4_calls s n w hs h0 (by simpa using h1)
  · have e : be n 8 = [n / 72057594037927936, n / 281474976710656 % 256, n / 1099511627776 % 256, n / 4294967296 % 256, n / 16777216 % 256, n / 65536 % 256, n / 256 % 256, n % 256] := by simp [be]; omega
    rw [e]; exact put8_calls s n w hs h0 (by simpa using h1)

theorem num_calls (k : Nat) (hk : Wd k) (b c : Nat) (s : ByteArray) (a : Nat) (bad : Bool) (w : World) (h : Rd w b c s a bad) :
    Calls Try.prog 85 #[.pointer (some ⟨b, 0, none⟩), .int .i64 k] w fun e w' => e = .returned (.int .u64 (rdNum s a bad k)) ∧ Rd w' b c s (rdAt s a bad k) (rdBad s a bad k) ∧ Mod (· = b) w w' := by
  rcases hk with rfl | rfl | rfl | rfl
  · exact num1_calls b c s a bad w h
  · exact num2_calls b c s a bad w h
  · exact num4_calls b c s a bad w h
  · exact num8_calls b c s a bad w h

theorem method_w (wb : Nat) (w : World) : (method 252 73 (.pointer (some ⟨wb, 0, none⟩)) "consign/msg.num").run Try.prog w = .ok (81, .pointer (some ⟨wb, 0, none⟩)) w := by kernel_rfl
theorem method_r (rb : Nat) (w : World) : (method 252 85 (.agg #[.pointer (some ⟨rb, 0, none⟩)]) "consign/msg.num").run Try.prog w = .ok (84, .agg #[.pointer (some ⟨rb, 0, none⟩)]) w := by kernel_rfl

theorem wnum_calls (k : Nat) (hk : Wd k) (wb nb j : Nat) (s : ByteArray) (n : Int) (C : Array Value) (t : TypeId) (w : World) (hs : s.size ≤ 140737488351232) (h0 : 0 ≤ n) (h1 : n < 256 ^ k)
    (hw : Blk w wb #[.string s] 75) (hn : Blk w nb C t) (hc : C[j]? = some (.int .u64 n)) :
    Calls Try.prog 81 #[.pointer (some ⟨wb, 0, none⟩), .pointer (some ⟨nb, j, none⟩), .int .i64 k] w fun e w' => e = .returned (.tuple #[]) ∧ Mod (· = wb) w w' ∧ Blk w' wb #[.string (s ++ strOfNums (be n k))] 75 := by
  have c0 := hw.cell (i := 0) rfl
  have c1 := hn.cell hc
  have hp := fun w => Lib.hid (put_calls k hk s n w hs h0 h1)
  go_enter Try.func81, Try.ntmps81
  go_wp2
  go_region_with (go_at_call 82; refine (hp _).out.mono ?_; rintro e w1 ⟨rfl, hb⟩; have hm1 : Mod (fun _ => False) w w1 := ((Mod.refl _ _).drew).after hb; have hw1 := hw.mod hm1 (by simp); have c2 := hw1.cell (i := 0) rfl; have f2 := hw1.froz 0)
  all_goals go_wp2
  all_goals exact bodyPost_end (v := .tuple #[]) (by simp [results, Try.results81, go_sem]) rfl ⟨rfl, (hm1.mono (by simp)).trans (mod_cell _ _ _ _), hw1.set _ _⟩
theorem rnum_calls (k : Nat) (hk : Wd k) (b c nb j : Nat) (s : ByteArray) (a : Nat) (bad : Bool) (n : Int) (C : Array Value) (t : TypeId) (w : World)
    (h : Rd w b c s a bad) (hn : Blk w nb C t) (hc : C[j]? = some (.int .u64 n)) (hne : nb ≠ b) (hcb : c ≠ nb) :
    Calls Try.prog 84 #[.agg #[.pointer (some ⟨b, 0, none⟩)], .pointer (some ⟨nb, j, none⟩), .int .i64 k] w fun e w' =>
      e = .returned (.tuple #[]) ∧ Mod (fun x => x = b ∨ x = nb) w w' ∧ Rd w' b c s (rdAt s a bad k) (rdBad s a bad k) ∧ Blk w' nb (C.setIfInBounds j (.int .u64 (rdNum s a bad k))) t := by
  have c1 := hn.cell hc
  have hp := fun w h => Lib.hid (num_calls k hk b c s a bad w h)
  go_enter Try.func84, Try.ntmps84
  go_wp2_with fail
  refine (hp _ (h.mod ((Mod.refl (fun _ => False) _).alloc _) (by simp) (by simp))).out.mono ?_
  rintro e w1 ⟨rfl, hr, hm⟩
  have hn1 := (hn.alloc _).mod hm hne
  have c2 := hn1.cell hc
  have f2 := hn1.froz j
  go_wp2
  exact bodyPost_end (v := .tuple #[]) (by simp [results, Try.results84, go_sem]) rfl ⟨rfl, (((Mod.refl (fun x => x = b ∨ x = nb) _).alloc _).trans (hm.mono (by intro k _ h; exact .inl h))).setCell (fun _ => .inr rfl) _, ⟨hr.row.other (Ne.symm hne) _, hr.box.other hcb _, hr.small, hr.inn⟩, hn1.set _ _⟩

end Go.Proofs.Ytcipdimnbleljaa
namespace Go.Proofs.Ytcipdimnbleljaa
open Go.RowKit

theorem setCell_same {w : World} {b : Nat} {C : Array Value} {t : TypeId} {i : Nat} {v : Value} (h : Blk w b C t) (hc : C[i]? = some v) : w.setCell ⟨b, i, none⟩ v = w := by
  unfold Blk at h
  obtain ⟨hl, hv⟩ := Array.getElem?_eq_some_iff.1 hc
  have hs : C.setIfInBounds i v = C := by
    apply Array.ext
    · simp
    · intro j h1 h2
      rw [Array.getElem_setIfInBounds]
      split
      · next e => subst e; exact hv.symm
      · rfl
  obtain ⟨hb, hb'⟩ := Array.getElem?_eq_some_iff.1 h
  show ({ w with heap := w.heap.modify b _ } : World) = w
  have e : ∀ f : Obj → Obj, f (.cells C t (0, 0)) = .cells C t (0, 0) → w.heap.modify b f = w.heap := by
    intro f hf
    apply Array.ext
    · simp
    · intro j h1 h2
      rw [Array.getElem_modify]
      split
      · next e => subst e; rw [hb', hf]
      · rfl
  rw [e _ (by simp [hs])]

theorem Mod.widen {S T : Nat → Prop} {w w' : World} (h : Mod S w w') (hst : ∀ k, S k → T k) : Mod T w w' := h.mono fun k _ hk => hst k hk
/-- a change of new blocks, and of S's -/
theorem Mod.from_alloc {S : Nat → Prop} {w w' : World} {o : Obj} (h : Mod S (w.alloc o) w') : Mod S w w' := ((Mod.refl S w).alloc o).trans h
theorem Mod.from_new {S : Nat → Prop} {w w' : World} {o : Obj} (h : Mod (fun k => S k ∨ k = w.heap.size) (w.alloc o) w') : Mod S w w' := by
  have h1 : Mod (fun k => S k ∨ k = w.heap.size) w w' := ((Mod.refl _ w).alloc o).trans h
  exact h1.mono fun k hk hs => hs.elim id (fun e => absurd e (Nat.ne_of_lt hk))

theorem whole_w (k : Nat) (hk : Wd k) (hk4 : k ≤ 4) (wb nb j : Nat) (s : ByteArray) (n : Int) (C : Array Value) (t : TypeId) (w : World) (hs : s.size ≤ 140737488351232) (h0 : 0 ≤ n) (h1 : n < 256 ^ k)
    (hw : Blk w wb #[.string s] 75) (hn : Blk w nb C t) (hc : C[j]? = some (.int .i64 n)) (hne : nb ≠ wb) :
    Calls Try.prog 40 #[.iface 73 (.pointer (some ⟨wb, 0, none⟩)), .pointer (some ⟨nb, j, none⟩), .int .i64 k] w fun e w' =>
      e = .returned (.tuple #[]) ∧ Mod (· = wb) w w' ∧ Blk w' wb #[.string (s ++ strOfNums (be n k))] 75 := by
  have c0 := hn.cell hc
  have hm := method_w wb
  have hb : n < 4294967296 := by
    rcases hk with rfl | rfl | rfl | rfl <;> omega
  have wb' := hw.lt
  have hu : IntKind.u64.wrap n = n := IntWalk.u64_in _ (by omega)
  have hi : IntKind.i64.wrap n = n := IntWalk.i64_in _ (by omega)
  have hw1 := hw.alloc (.cells #[.int .u64 n] 24)
  have hn1 := hn.alloc (.cells #[.int .u64 n] 24)
  have hx := Lib.hid (wnum_calls k hk wb w.heap.size 0 s n #[.int .u64 n] _ _ hs h0 h1 hw1 (Blk.new w #[.int .u64 n] 24) rfl)
  go_enter Try.func40, Try.ntmps40
  go_wp2_with fail
  refine hx.out.mono ?_
  rintro e w1 ⟨rfl, hm1, hw2⟩
  have hb2 := (Blk.new w #[.int .u64 n] 24).mod hm1 (by omega)
  have hn2 := hn1.mod hm1 hne
  have c2 := hb2.cell (i := 0) rfl
  have c3 := hn2.cell hc
  have f3 := hn2.froz j
  go_wp2
  rw [setCell_same hn2 hc]
  exact bodyPost_end (v := .tuple #[]) (by simp [results, Try.results40, go_sem]) rfl ⟨rfl, hm1.from_alloc, hw2⟩

theorem whole_r (k : Nat) (hk : Wd k) (hk4 : k ≤ 4) (b c nb j : Nat) (s : ByteArray) (a : Nat) (bad : Bool) (n : Int) (C : Array Value) (t : TypeId) (w : World) (h0 : 0 ≤ n) (h1 : n < 9223372036854775808)
    (h : Rd w b c s a bad) (hn : Blk w nb C t) (hc : C[j]? = some (.int .i64 n)) (hne : nb ≠ b) (hcb : c ≠ nb) :
    Calls Try.prog 40 #[.iface 85 (.agg #[.pointer (some ⟨b, 0, none⟩)]), .pointer (some ⟨nb, j, none⟩), .int .i64 k] w fun e w' =>
      e = .returned (.tuple #[]) ∧ Mod (fun x => x = b ∨ x = nb) w w' ∧ Rd w' b c s (rdAt s a bad k) (rdBad s a bad k) ∧ Blk w' nb (C.setIfInBounds j (.int .i64 (rdNum s a bad k))) t := by
  have c0 := hn.cell hc
  have hm := method_r b
  have hu : IntKind.u64.wrap n = n := IntWalk.u64_in _ (by omega)
  have hr1 : Rd (w.alloc (.cells #[.int .u64 n] 24)) b c s a bad := h.mod ((Mod.refl (fun _ => False) _).alloc _) (by simp) (by simp)
  have hn1 := hn.alloc (.cells #[.int .u64 n] 24)
  have hbl := h.row.lt
  have hcl := h.box.lt
  have hnl := hn.lt
  have hv : 0 ≤ rdNum s a bad k ∧ rdNum s a bad k < 4294967296 := by
    have := numAt_bd s a k
    unfold rdNum
    split
    · omega
    · rcases hk with rfl | rfl | rfl | rfl <;> omega
  have hi : IntKind.i64.wrap (rdNum s a bad k) = rdNum s a bad k := IntWalk.i64_in _ (by omega)
  have hx := Lib.hid (rnum_calls k hk b c w.heap.size 0 s a bad n #[.int .u64 n] _ _ hr1 (Blk.new w #[.int .u64 n] 24) rfl (by omega) (by omega))
  go_enter Try.func40, Try.ntmps40
  go_wp2_with fail
  refine hx.out.mono ?_
  rintro e w1 ⟨rfl, hm1, hr2, hb2⟩
  have hn2 := hn1.mod hm1 (by omega)
  have c2 := hb2.cell (i := 0) rfl
  have c3 := hn2.cell hc
  have f3 := hn2.froz j
  go_wp2
  refine bodyPost_end (v := .tuple #[]) (by simp [results, Try.results40, go_sem]) rfl ⟨rfl, ?_, ?_, hn2.set _ _⟩
  · exact ((hm1.widen (T := fun x => (x = b ∨ x = nb) ∨ x = w.heap.size) (by intro k h; omega)).from_new).setCell (fun _ => .inr rfl) _
  · exact ⟨hr2.row.other (Ne.symm hne) _, hr2.box.other hcb _, hr2.small, hr2.inn⟩
end Go.Proofs.Ytcipdimnbleljaa
namespace Go.Proofs.Ytcipdimnbleljaa
open Go.RowKit

theorem strOfNums_append (a b : List Int) : strOfNums (a ++ b) = strOfNums a ++ strOfNums b := by
  apply ByteArray.ext; apply Array.toList_inj.1
  rw [ByteArray.data_append, Array.toList_append, strOfNums_data, strOfNums_data, strOfNums_data, List.map_append]
theorem strOfNums_nil : strOfNums [] = ByteArray.empty := rfl
theorem take_one (xs : List Int) (k : Nat) (h : k < xs.length) : xs.take (k + 1) = xs.take k ++ [xs.getD k 0] := by
  rw [List.take_succ_eq_append_getElem h, List.getD_eq_getElem?_getD, List.getElem?_eq_getElem h]; rfl
theorem getD_all {P : Int → Prop} (xs : List Int) (k : Nat) (h : k < xs.length) (hx : ∀ x ∈ xs, P x) : P (xs.getD k 0) := by
  rw [List.getD_eq_getElem?_getD, List.getElem?_eq_getElem h]; exact hx _ (List.getElem_mem h)

set_option maxHeartbeats 400000 in
theorem digest_w (wb nb o : Nat) (s : ByteArray) (xs : List Int) (C : Array Value) (t : TypeId) (w : World) (hs : s.size ≤ 140737488351000) (hl : xs.length = 32) (hx : ∀ x ∈ xs, 0 ≤ x ∧ x < 256)
    (hw : Blk w wb #[.string s] 75) (hn : Blk w nb C t) (hc : ∀ i, i < 32 → C[o + i]? = some (.int .u8 (xs.getD i 0))) (hne : nb ≠ wb) :
    Calls Try.prog 42 #[.iface 73 (.pointer (some ⟨wb, 0, none⟩)), .pointer (some ⟨nb, o, none⟩)] w fun e w' =>
      e = .returned (.tuple #[]) ∧ Mod (· = wb) w w' ∧ Blk w' wb #[.string (s ++ strOfNums xs)] 75 := by
  have hm := method_w wb
  have hwl := hw.lt
  go_enter Try.func42, Try.ntmps42
  go_wp2
  go_loopw [6] (fun i wr => ∃ k : Nat, k ≤ 32 ∧ i = .int .i64 k ∧ Mod (· = wb) w wr ∧ Blk wr wb #[.string (s ++ strOfNums (xs.take k))] 75) (fun i _ => 32 - (intOf i).toNat)
  case atStart => exact ⟨0, by omega, rfl, Mod.refl _ _, by simpa [strOfNums_nil] using hw⟩
  case round =>
    obtain ⟨k, hk, rfl, hM, hW⟩ := hrel
    have hnr := hn.mod hM hne
    by_cases hk32 : k < 32
    · obtain ⟨x, hxe, hxb⟩ : ∃ x, xs.getD k 0 = x ∧ (0 ≤ x ∧ x < 256) := ⟨_, rfl, getD_all xs k (by omega) hx⟩
      have hck := hc k hk32
      rw [hxe] at hck
      have c0 := hnr.cell hck
      have hu : IntKind.u64.wrap x = x := IntWalk.u64_in _ (by omega)
      have hu8 : IntKind.u8.wrap x = x := IntWalk.u8_in _ (by omega)
      have hW1 := hW.alloc (.cells #[.int .u64 x] 24)
      have hn1 := hnr.alloc (.cells #[.int .u64 x] 24)
      have hsz : (s ++ strOfNums (xs.take k)).size ≤ 140737488351232 := by
        rw [ByteArray.size_append, strOfNums_size, List.length_take]; omega
      have hwr := hW.lt
      have hX := Lib.hid (wnum_calls 1 (.inl rfl) wb wr.heap.size 0 (s ++ strOfNums (xs.take k)) x #[.int .u64 x] _ _ hsz hxb.1 (by simpa using hxb.2) hW1 (Blk.new wr #[.int .u64 x] 24) rfl)
      go_wp2_with fail
      refine hX.out.mono ?_
      rintro e w1 ⟨rfl, hm1, hw2⟩
      have hb2 := (Blk.new wr #[.int .u64 x] 24).mod hm1 (by omega)
      have hn2 := hn1.mod hm1 hne
      have c2 := hb2.cell (i := 0) rfl
      have c3 := hn2.cell hck
      have f3 := hn2.froz (o + k)
      go_wp2
      go_region
      go_wp2
      rw [setCell_same hn2 hck]
      go_roundw
      case rel =>
        refine ⟨k + 1, by omega, by go_num, (hM.trans hm1.from_alloc).drew, ?_⟩
        rw [take_one _ _ (by omega), strOfNums_append, hxe, ← ByteArray.append_assoc]
        have e : be x 1 = [x] := by simp [be]; omega
        rwa [e] at hw2
      case measure => simp [intOf]; omega
    · obtain rfl : k = 32 := by omega
      go_wp2
      refine bodyPost_end (v := .tuple #[]) (by simp [results, Try.results42, go_sem]) rfl ⟨rfl, hM, ?_⟩
      rwa [List.take_of_length_le (by omega)] at hW

/-- where the reader stands behind k numbers of one byte -/
def dgA (s : ByteArray) (a : Nat) (bad : Bool) : Nat → Nat × Bool
  | 0 => (a, bad)
  | k + 1 => (rdAt s (dgA s a bad k).1 (dgA s a bad k).2 1, rdBad s (dgA s a bad k).1 (dgA s a bad k).2 1)
/-- the k-th of them -/
def dgV (s : ByteArray) (a : Nat) (bad : Bool) (k : Nat) : Int := rdNum s (dgA s a bad k).1 (dgA s a bad k).2 1
/-- the row, with k of them laid from o on -/
def dgRow (s : ByteArray) (a : Nat) (bad : Bool) (C : Array Value) (o : Nat) : Nat → Array Value
  | 0 => C
  | k + 1 => (dgRow s a bad C o k).setIfInBounds (o + k) (.int .u8 (dgV s a bad k))
theorem dgRow_size (s : ByteArray) (a : Nat) (bad : Bool) (C : Array Value) (o k : Nat) : (dgRow s a bad C o k).size = C.size := by
  induction k with
  | zero => rfl
  | succ k ih => simp [dgRow, ih]
theorem dgRow_get (s : ByteArray) (a : Nat) (bad : Bool) (C : Array Value) (o k i : Nat) :
    (dgRow s a bad C o k)[i]? = if o ≤ i ∧ i < o + k ∧ i < C.size then some (.int .u8 (dgV s a bad (i - o))) else C[i]? := by
  induction k with
  | zero => simp only [dgRow]; rw [if_neg (by omega)]
  | succ k ih =>
    rw [dgRow, Array.getElem?_setIfInBounds, dgRow_size, ih]
    by_cases h1 : o + k = i
    · subst h1
      by_cases h2 : o + k < C.size
      · simp [h2]
      · simp [h2]
    · rw [if_neg h1]
      by_cases h2 : o ≤ i ∧ i < o + k ∧ i < C.size
      · rw [if_pos h2, if_pos (by omega)]
      · rw [if_neg h2, if_neg (by omega)]
theorem rdNum_bd (s : ByteArray) (a : Nat) (bad : Bool) (k : Nat) : 0 ≤ rdNum s a bad k ∧ rdNum s a bad k < 256 ^ k := by
  have := numAt_bd s a k
  unfold rdNum
  split
  · constructor
    · omega
    · exact Int.pow_pos (by omega)
  · exact this

set_option maxHeartbeats 400000 in
theorem digest_r (b c nb o : Nat) (s : ByteArray) (a : Nat) (bad : Bool) (C : Array Value) (t : TypeId) (w : World)
    (h : Rd w b c s a bad) (hn : Blk w nb C t) (hc : ∀ i, i < 32 → ∃ x : Int, C[o + i]? = some (.int .u8 x) ∧ 0 ≤ x ∧ x < 256) (hne : nb ≠ b) (hcb : c ≠ nb) :
    Calls Try.prog 42 #[.iface 85 (.agg #[.pointer (some ⟨b, 0, none⟩)]), .pointer (some ⟨nb, o, none⟩)] w fun e w' =>
      e = .returned (.tuple #[]) ∧ Mod (fun x => x = b ∨ x = nb) w w' ∧ Rd w' b c s (dgA s a bad 32).1 (dgA s a bad 32).2 ∧ Blk w' nb (dgRow s a bad C o 32) t := by
  have hm := method_r b
  have hbl := h.row.lt
  have hcl := h.box.lt
  have hnl := hn.lt
  go_enter Try.func42, Try.ntmps42
  go_wp2
  go_loopw [6] (fun i wr => ∃ k : Nat, k ≤ 32 ∧ i = .int .i64 k ∧ Mod (fun x => x = b ∨ x = nb) w wr ∧ Rd wr b c s (dgA s a bad k).1 (dgA s a bad k).2 ∧ Blk wr nb (dgRow s a bad C o k) t) (fun i _ => 32 - (intOf i).toNat)
  case atStart => exact ⟨0, by omega, rfl, Mod.refl _ _, h, hn⟩
  case round =>
    obtain ⟨k, hk, rfl, hM, hR, hnr⟩ := hrel
    by_cases hk32 : k < 32
    · obtain ⟨x, hxe, hxb⟩ := hc k hk32
      have hck : (dgRow s a bad C o k)[o + k]? = some (.int .u8 x) := by rw [dgRow_get, if_neg (by omega), hxe]
      have c0 := hnr.cell hck
      have hu : IntKind.u64.wrap x = x := IntWalk.u64_in _ (by omega)
      have hwr := hM.size
      have hvb := rdNum_bd s (dgA s a bad k).1 (dgA s a bad k).2 1
      obtain ⟨v, hv⟩ : ∃ v, rdNum s (dgA s a bad k).1 (dgA s a bad k).2 1 = v := ⟨_, rfl⟩
      have hR1 : Rd (wr.alloc (.cells #[.int .u64 x] 24)) b c s (dgA s a bad k).1 (dgA s a bad k).2 := hR.mod ((Mod.refl (fun _ => False) _).alloc _) (by simp) (by simp)
      have hn1 := hnr.alloc (.cells #[.int .u64 x] 24)
      have hX := Lib.hid (rnum_calls 1 (.inl rfl) b c wr.heap.size 0 s _ _ x #[.int .u64 x] _ _ hR1 (Blk.new wr #[.int .u64 x] 24) rfl (by omega) (by omega))
      rw [hv] at hX hvb
      have hu8 : IntKind.u8.wrap v = v := IntWalk.u8_in _ (by omega)
      go_wp2_with fail
      refine hX.out.mono ?_
      rintro e w1 ⟨rfl, hm1, hr2, hb2⟩
      have hn2 := hn1.mod hm1 (by omega)
      have c2 := hb2.cell (i := 0) rfl
      have c3 := hn2.cell hck
      have f3 := hn2.froz (o + k)
      go_wp2
      go_region
      go_wp2
      go_roundw
      case rel =>
        refine ⟨k + 1, by omega, by go_num, ?_, ?_, ?_⟩
        · exact ((hM.trans ((hm1.widen (T := fun x => (x = b ∨ x = nb) ∨ x = wr.heap.size) (by intro k h; omega)).from_new)).setCell (fun _ => .inr rfl) _).drew
        · exact ⟨hr2.row.other (Ne.symm hne) _, hr2.box.other hcb _, hr2.small, hr2.inn⟩
        · rw [dgRow, dgV, hv]; exact hn2.set _ _
      case measure => simp [intOf]; omega
    · obtain rfl : k = 32 := by omega
      go_wp2
      exact bodyPost_end (v := .tuple #[]) (by simp [results, Try.results42, go_sem]) rfl ⟨rfl, hM, hR, hnr⟩
end Go.Proofs.Ytcipdimnbleljaa
