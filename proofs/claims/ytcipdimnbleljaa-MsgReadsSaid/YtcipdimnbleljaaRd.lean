/-
  Layer 16 (octet): the program's Reader.
-/
import Derived.Test.YtcipdimnbleljaaGet
import Derived.Laws.EntriesVeiled
import Derived.Test.YtcipdimnbleljaaBlk
namespace Go.Proofs.Ytcipdimnbleljaa
open Go.RowKit

/-- the program's reader: its block b, the box of the variable that its step caught -/
structure Rd (w : World) (b c : Nat) (s : ByteArray) (a : Nat) (bad : Bool) : Prop where
  row : Blk w b #[.string s, .int .i64 a, .func (.func 45) #[] #[.pointer (some ⟨c, 0, none⟩)], .bool bad] 113
  box : Blk w c #[.pointer (some ⟨b, 0, none⟩)] 82
  small : s.size ≤ 140737488351232
  inn : a ≤ s.size
theorem Rd.ne {w : World} {b c : Nat} {s : ByteArray} {a : Nat} {bad : Bool} (h : Rd w b c s a bad) : c ≠ b := by
  rintro rfl
  have h1 := h.row; have h2 := h.box
  unfold Blk at h1 h2
  rw [h1] at h2
  simp at h2
theorem Rd.mod {w w' : World} {b c : Nat} {s : ByteArray} {a : Nat} {bad : Bool} (h : Rd w b c s a bad) {S : Nat → Prop} (hm : Mod S w w') (hb : ¬ S b) (hc : ¬ S c) : Rd w' b c s a bad :=
  ⟨h.row.mod hm hb, h.box.mod hm hc, h.small, h.inn⟩

theorem read_calls (s : ByteArray) (w : World) (hs : s.size ≤ 140737488351232) :
    Calls Try.prog 32 #[.string s] w fun e w' => e = .returned (.pointer (some ⟨w.heap.size, 0, none⟩)) ∧ Below w.heap.size w w' ∧ Rd w' w.heap.size (w.heap.size + 1) s 0 false := by
  have hb := (Blk.new w #[.string s, .int .i64 0, .nilFunc, .bool false] 113).alloc (.cells #[.pointer (some ⟨w.heap.size, 0, none⟩)] 82)
  have hc2 := hb.cell (i := 2) rfl
  have hf2 := hb.froz 2
  go_enter Try.func32, Try.ntmps32
  go_wp2
  refine bodyPost_ret (v := .pointer (some ⟨w.heap.size, 0, none⟩)) (by simp [results, Try.results32, go_sem]) rfl ⟨rfl, ?_, ?_⟩
  · exact ((Below.refl _ _).alloc (Nat.le_refl _) _).alloc (by simp) _
  · exact ⟨(Blk.new _ _ _).alloc _, Blk.new' _ _ _ _, hs, Nat.zero_le _⟩
theorem left_calls (b c : Nat) (s : ByteArray) (a : Nat) (bad : Bool) (w : World) (h : Rd w b c s a bad) :
    Calls Try.prog 46 #[.pointer (some ⟨b, 0, none⟩)] w fun e w' => e = .returned (.int .i64 (if bad then 0 else (s.size : Int) - a)) ∧ Below w.heap.size w w' := by
  have h0 := h.row.cell (i := 0) rfl
  have h1 := h.row.cell (i := 1) rfl
  have h3 := h.row.cell (i := 3) rfl
  have hs := h.small
  have ha := h.inn
  go_enter Try.func46, Try.ntmps46
  cases bad
  · go_wp2
    go_region
    go_wp2
    go_ret
    exact ⟨rfl, (Below.refl _ _).drew⟩
  · go_wp2
    go_ret
    exact ⟨rfl, Below.refl _ _⟩
theorem step_calls (b c : Nat) (s : ByteArray) (a k : Nat) (w : World) (h : Rd w b c s a false) (hk : a + k ≤ s.size) :
    Calls Try.prog 45 #[.int .i64 k, .pointer (some ⟨c, 0, none⟩)] w fun e w' => e = .returned (.bool true) ∧ Rd w' b c s (a + k) false ∧ Mod (· = b) w w' := by
  have h0 := h.row.cell (i := 0) rfl
  have h1 := h.row.cell (i := 1) rfl
  have h3 := h.row.cell (i := 3) rfl
  have hf1 := h.row.froz 1
  have hf3 := h.row.froz 3
  have hc := h.box.cell (i := 0) rfl
  have hs := h.small
  have ha := h.inn
  go_enter Try.func45, Try.ntmps45
  have hlt : ¬ ((s.size : Int) - a < k) := by omega
  go_wp2
  go_region
  go_wp2
  · have hd : decide ((s.size : Int) - a < k) = false := decide_eq_false (by omega)
    refine bodyPost_ret (v := .bool true) (by simp [results, Try.results45, go_sem]) rfl ⟨rfl, ⟨?_, ?_, hs, hk⟩, ?_⟩
    · rw [hd]; exact ((h.row.set 3 _).set 1 _).drew
    · exact ((h.box.other h.ne _).other h.ne _).drew
    · exact (((Mod.refl (· = b) _).setCell (fun _ => rfl) _).setCell (fun _ => rfl) _).drew
  · rename_i hx
    exfalso; simp at hx; omega
theorem step_fails (b c : Nat) (s : ByteArray) (a k : Nat) (w : World) (h : Rd w b c s a false) (hk : s.size < a + k) :
    Calls Try.prog 45 #[.int .i64 k, .pointer (some ⟨c, 0, none⟩)] w fun e w' => e = .returned (.bool false) ∧ Rd w' b c s a true ∧ Mod (· = b) w w' := by
  have h0 := h.row.cell (i := 0) rfl
  have h1 := h.row.cell (i := 1) rfl
  have h3 := h.row.cell (i := 3) rfl
  have hf1 := h.row.froz 1
  have hf3 := h.row.froz 3
  have hc := h.box.cell (i := 0) rfl
  have hs := h.small
  have ha := h.inn
  go_enter Try.func45, Try.ntmps45
  have hlt : ((s.size : Int) - a < k) := by omega
  go_wp2
  go_region
  go_wp2
  · have hd : decide ((s.size : Int) - a < k) = true := decide_eq_true (by omega)
    refine bodyPost_ret (v := .bool false) (by simp [results, Try.results45, go_sem]) rfl ⟨rfl, ⟨?_, ?_, hs, ha⟩, ?_⟩
    · exact (h.row.set 3 _).drew
    · exact (h.box.other h.ne _).drew
    · exact ((Mod.refl (· = b) _).setCell (fun _ => rfl) _).drew
theorem step_bad (b c : Nat) (s : ByteArray) (a : Nat) (k : Int) (w : World) (h : Rd w b c s a true) :
    Calls Try.prog 45 #[.int .i64 k, .pointer (some ⟨c, 0, none⟩)] w fun e w' => e = .returned (.bool false) ∧ Rd w' b c s a true ∧ Mod (· = b) w w' := by
  have h0 := h.row.cell (i := 0) rfl
  have h1 := h.row.cell (i := 1) rfl
  have h3 := h.row.cell (i := 3) rfl
  have hf1 := h.row.froz 1
  have hf3 := h.row.froz 3
  have hc := h.box.cell (i := 0) rfl
  have hs := h.small
  have ha := h.inn
  go_enter Try.func45, Try.ntmps45
  go_wp2
  go_region
  go_wp2
  refine bodyPost_ret (v := .bool false) (by simp [results, Try.results45, go_sem]) rfl ⟨rfl, ⟨?_, ?_, hs, ha⟩, ?_⟩
  · exact (h.row.set 3 _).drew
  · exact (h.box.other h.ne _).drew
  · exact ((Mod.refl (· = b) _).setCell (fun _ => rfl) _).drew

/-- what comes of a number of the reader: at, bad, and the number -/
def rdBad (s : ByteArray) (a : Nat) (bad : Bool) (k : Nat) : Bool := bad || decide (s.size < a + k)
def rdAt (s : ByteArray) (a : Nat) (bad : Bool) (k : Nat) : Nat := if rdBad s a bad k then a else a + k
def rdNum (s : ByteArray) (a : Nat) (bad : Bool) (k : Nat) : Int := if rdBad s a bad k then 0 else numAt s a k

theorem Rd.again {w : World} {b c : Nat} {s : ByteArray} {a : Nat} {bad : Bool} (h : Rd w b c s a bad) : Rd (w.setCell ⟨b, 3, none⟩ (.bool bad)) b c s a bad :=
  ⟨h.row.set 3 _, h.box.other h.ne _, h.small, h.inn⟩
theorem mod_cell (w : World) (b i : Nat) (v : Value) : Mod (· = b) w (w.setCell ⟨b, i, none⟩ v) := (Mod.refl (· = b) _).setCell (fun _ => rfl) _

theorem end_calls (b c : Nat) (s : ByteArray) (a : Nat) (bad : Bool) (w : World) (h : Rd w b c s a bad) :
    Calls Try.prog 33 #[.pointer (some ⟨b, 0, none⟩)] w fun e w' => e = .returned (.int .i64 (if bad then 14 else if a < s.size then 15 else 0)) ∧ Below w.heap.size w w' := by
  have hl := Lib.hid (left_calls b c s a bad w h)
  have h3 := h.row.cell (i := 3) rfl
  have hs := h.small
  have ha := h.inn
  cases bad
  · by_cases hk : a < s.size
    · have e1 : ¬ ((s.size : Int) - a ≤ 0) := by omega
      rw [if_pos hk]
      go_enter Try.func33, Try.ntmps33
      go_wp2_with fail
      refine hl.out.mono ?_
      rintro e w1 ⟨rfl, hb⟩
      go_wp2
      go_ret
      exact ⟨rfl, hb⟩
    · have e1 : ((s.size : Int) - a ≤ 0) := by omega
      rw [if_neg hk]
      go_enter Try.func33, Try.ntmps33
      go_wp2_with fail
      refine hl.out.mono ?_
      rintro e w1 ⟨rfl, hb⟩
      go_wp2
      go_ret
      exact ⟨rfl, hb⟩
  · go_enter Try.func33, Try.ntmps33
    go_wp2
    go_ret
    exact ⟨rfl, Below.refl _ _⟩
end Go.Proofs.Ytcipdimnbleljaa
