/-
  Layer 18 (msg): a number, with a writer and with a reader.
-/
import Derived.Test.YtcipdimnbleljaaNum
namespace Go.Proofs.Ytcipdimnbleljaa
open Go.RowKit

/-- the bytes of a number, the greatest first -/
def be (n : Int) : Nat → List Int
  | 0 => []
  | k + 1 => be (n / 256) k ++ [n % 256]
theorem be_length (n : Int) (k : Nat) : (be n k).length = k := by
  induction k generalizing n with
  | zero => rfl
  | succ k ih => simp [be, ih]

/-- the widths that there are -/
def Wd (k : Nat) : Prop := k = 1 ∨ k = 2 ∨ k = 4 ∨ k = 8

theorem put_calls (k : Nat) (hk : Wd k) (s : ByteArray) (n : Int) (w : World) (hs : s.size ≤ 140737488351232) (h0 : 0 ≤ n) (h1 : n < 256 ^ k) :
    Calls Try.prog 82 #[.string s, .int .u64 n, .int .i64 k] w fun e w' => e = .returned (.tuple #[.string (s ++ strOfNums (be n k)), .int .i64 0]) ∧ Below w.heap.size w w' := by
  rcases hk with rfl | rfl | rfl | rfl
  · have e : be n 1 = [n] := by simp [be]; omega
    rw [e]; exact put1_calls s n w hs h0 (by simpa using h1)
  · have e : be n 2 = [n / 256, n % 256] := by simp [be]; omega
    rw [e]; exact put2_calls s n w hs h0 (by simpa using h1)
  · have e : be n 4 = [n / 16777216, n / 65536 % 256, n / 256 % 256, n % 256] := by simp [be]; omega
    rw [e]; exact put4_calls s n w hs h0 (by simpa using h1)
  · have e : be n 8 = [n / 72057594037927936, n / 281474976710656 % 256, n / 1099511627776 % 256, n / 4294967296 % 256, n / 16777216 % 256, n / 65536 % 256, n / 256 % 256, n % 256] := by simp [be]; omega
    rw [e]; exact put8_calls s n w hs h0 (by simpa using h1)

theorem num_calls (k : Nat) (hk : Wd k) (b c : Nat) (s : ByteArray) (a : Nat) (bad : Bool) (w : World) (h : Rd w b c s a bad) :
    Calls Try.prog 85 #[.pointer (some ⟨b, 0, none⟩), .int .i64 k] w fun e w' => e = .returned (.int .u64 (rdNum s a bad k)) ∧ Rd w' b c s (rdAt s a bad k) (rdBad s a bad k) ∧ Mod (· = b) w w' := by
  rcases hk with rfl | rfl | rfl | rfl
  · exact num1_calls b c s a bad w h
  · exact num2_calls b c s a bad w h
  · exact num4_calls b c s a bad w h
  · exact num8_calls b c s a bad w h

theorem method_w (wb : Nat) (w : World) : (method 252 73 (.pointer (some ⟨wb, 0, none⟩)) "consign/msg.num").run Try.prog w = .ok (81, .pointer (some ⟨wb, 0, none⟩)) w := by kernel_rfl
theorem method_r (rb : Nat) (w : World) : (method 252 85 (.agg #[.pointer (some ⟨rb, 0, none⟩)]) "consign/msg.num").run Try.prog w = .ok (84, .agg #[.pointer (some ⟨rb, 0, none⟩)]) w := by kernel_rfl

theorem wnum_calls (k : Nat) (hk : Wd k) (wb nb j : Nat) (s : ByteArray) (n : Int) (C : Array Value) (t : TypeId) (w : World) (hs : s.size ≤ 140737488351232) (h0 : 0 ≤ n) (h1 : n < 256 ^ k)
    (hw : Blk w wb #[.string s] 75) (hn : Blk w nb C t) (hc : C[j]? = some (.int .u64 n)) :
    Calls Try.prog 81 #[.pointer (some ⟨wb, 0, none⟩), .pointer (some ⟨nb, j, none⟩), .int .i64 k] w fun e w' => e = .returned (.tuple #[]) ∧ Mod (· = wb) w w' ∧ Blk w' wb #[.string (s ++ strOfNums (be n k))] 75 := by
  have c0 := hw.cell (i := 0) rfl
  have c1 := hn.cell hc
  have hp := fun w => Lib.hid (put_calls k hk s n w hs h0 h1)
  go_enter Try.func81, Try.ntmps81
  go_wp2
  go_region_with (go_at_call 82; refine (hp _).out.mono ?_; rintro e w1 ⟨rfl, hb⟩; have hm1 : Mod (fun _ => False) w w1 := ((Mod.refl _ _).drew).after hb; have hw1 := hw.mod hm1 (by simp); have c2 := hw1.cell (i := 0) rfl; have f2 := hw1.froz 0)
  all_goals go_wp2
  all_goals exact bodyPost_end (v := .tuple #[]) (by simp [results, Try.results81, go_sem]) rfl ⟨rfl, (hm1.mono (by simp)).trans (mod_cell _ _ _ _), hw1.set _ _⟩
theorem rnum_calls (k : Nat) (hk : Wd k) (b c nb j : Nat) (s : ByteArray) (a : Nat) (bad : Bool) (n : Int) (C : Array Value) (t : TypeId) (w : World)
    (h : Rd w b c s a bad) (hn : Blk w nb C t) (hc : C[j]? = some (.int .u64 n)) (hne : nb ≠ b) (hcb : c ≠ nb) :
    Calls Try.prog 84 #[.agg #[.pointer (some ⟨b, 0, none⟩)], .pointer (some ⟨nb, j, none⟩), .int .i64 k] w fun e w' =>
      e = .returned (.tuple #[]) ∧ Mod (fun x => x = b ∨ x = nb) w w' ∧ Rd w' b c s (rdAt s a bad k) (rdBad s a bad k) ∧ Blk w' nb (C.setIfInBounds j (.int .u64 (rdNum s a bad k))) t := by
  have c1 := hn.cell hc
  have hp := fun w h => Lib.hid (num_calls k hk b c s a bad w h)
  go_enter Try.func84, Try.ntmps84
  go_wp2_with fail
  refine (hp _ (h.mod ((Mod.refl (fun _ => False) _).alloc _) (by simp) (by simp))).out.mono ?_
  rintro e w1 ⟨rfl, hr, hm⟩
  have hn1 := (hn.alloc _).mod hm hne
  have c2 := hn1.cell hc
  have f2 := hn1.froz j
  go_wp2
  exact bodyPost_end (v := .tuple #[]) (by simp [results, Try.results84, go_sem]) rfl ⟨rfl, (((Mod.refl (fun x => x = b ∨ x = nb) _).alloc _).trans (hm.mono (by intro k _ h; exact .inl h))).setCell (fun _ => .inr rfl) _, ⟨hr.row.other (Ne.symm hne) _, hr.box.other hcb _, hr.small, hr.inn⟩, hn1.set _ _⟩

end Go.Proofs.Ytcipdimnbleljaa
