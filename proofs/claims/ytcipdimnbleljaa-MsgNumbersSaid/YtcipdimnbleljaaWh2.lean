/-
  Layer 18 (msg): whole, with a writer and with a reader.
-/
import Derived.Test.YtcipdimnbleljaaWh
namespace Go.Proofs.Ytcipdimnbleljaa
open Go.RowKit

theorem setCell_same {w : World} {b : Nat} {C : Array Value} {t : TypeId} {i : Nat} {v : Value} (h : Blk w b C t) (hc : C[i]? = some v) : w.setCell ⟨b, i, none⟩ v = w := by
  unfold Blk at h
  obtain ⟨hl, hv⟩ := Array.getElem?_eq_some_iff.1 hc
  have hs : C.setIfInBounds i v = C := by
    apply Array.ext
    · simp
    · intro j h1 h2
      rw [Array.getElem_setIfInBounds]
      split
      · next e => subst e; exact hv.symm
      · rfl
  obtain ⟨hb, hb'⟩ := Array.getElem?_eq_some_iff.1 h
  show ({ w with heap := w.heap.modify b _ } : World) = w
  have e : ∀ f : Obj → Obj, f (.cells C t (0, 0)) = .cells C t (0, 0) → w.heap.modify b f = w.heap := by
    intro f hf
    apply Array.ext
    · simp
    · intro j h1 h2
      rw [Array.getElem_modify]
      split
      · next e => subst e; rw [hb', hf]
      · rfl
  rw [e _ (by simp [hs])]

theorem Mod.widen {S T : Nat → Prop} {w w' : World} (h : Mod S w w') (hst : ∀ k, S k → T k) : Mod T w w' := h.mono fun k _ hk => hst k hk
/-- a change of new blocks, and of S's -/
theorem Mod.from_alloc {S : Nat → Prop} {w w' : World} {o : Obj} (h : Mod S (w.alloc o) w') : Mod S w w' := ((Mod.refl S w).alloc o).trans h
theorem Mod.from_new {S : Nat → Prop} {w w' : World} {o : Obj} (h : Mod (fun k => S k ∨ k = w.heap.size) (w.alloc o) w') : Mod S w w' := by
  have h1 : Mod (fun k => S k ∨ k = w.heap.size) w w' := ((Mod.refl _ w).alloc o).trans h
  exact h1.mono fun k hk hs => hs.elim id (fun e => absurd e (Nat.ne_of_lt hk))

theorem whole_w (k : Nat) (hk : Wd k) (hk4 : k ≤ 4) (wb nb j : Nat) (s : ByteArray) (n : Int) (C : Array Value) (t : TypeId) (w : World) (hs : s.size ≤ 140737488351232) (h0 : 0 ≤ n) (h1 : n < 256 ^ k)
    (hw : Blk w wb #[.string s] 75) (hn : Blk w nb C t) (hc : C[j]? = some (.int .i64 n)) (hne : nb ≠ wb) :
    Calls Try.prog 40 #[.iface 73 (.pointer (some ⟨wb, 0, none⟩)), .pointer (some ⟨nb, j, none⟩), .int .i64 k] w fun e w' =>
      e = .returned (.tuple #[]) ∧ Mod (· = wb) w w' ∧ Blk w' wb #[.string (s ++ strOfNums (be n k))] 75 := by
  have c0 := hn.cell hc
  have hm := method_w wb
  have hb : n < 4294967296 := by
    rcases hk with rfl | rfl | rfl | rfl <;> omega
  have wb' := hw.lt
  have hu : IntKind.u64.wrap n = n := IntWalk.u64_in _ (by omega)
  have hi : IntKind.i64.wrap n = n := IntWalk.i64_in _ (by omega)
  have hw1 := hw.alloc (.cells #[.int .u64 n] 24)
  have hn1 := hn.alloc (.cells #[.int .u64 n] 24)
  have hx := Lib.hid (wnum_calls k hk wb w.heap.size 0 s n #[.int .u64 n] _ _ hs h0 h1 hw1 (Blk.new w #[.int .u64 n] 24) rfl)
  go_enter Try.func40, Try.ntmps40
  go_wp2_with fail
  refine hx.out.mono ?_
  rintro e w1 ⟨rfl, hm1, hw2⟩
  have hb2 := (Blk.new w #[.int .u64 n] 24).mod hm1 (by omega)
  have hn2 := hn1.mod hm1 hne
  have c2 := hb2.cell (i := 0) rfl
  have c3 := hn2.cell hc
  have f3 := hn2.froz j
  go_wp2
  rw [setCell_same hn2 hc]
  exact bodyPost_end (v := .tuple #[]) (by simp [results, Try.results40, go_sem]) rfl ⟨rfl, hm1.from_alloc, hw2⟩

theorem whole_r (k : Nat) (hk : Wd k) (hk4 : k ≤ 4) (b c nb j : Nat) (s : ByteArray) (a : Nat) (bad : Bool) (n : Int) (C : Array Value) (t : TypeId) (w : World) (h0 : 0 ≤ n) (h1 : n < 9223372036854775808)
    (h : Rd w b c s a bad) (hn : Blk w nb C t) (hc : C[j]? = some (.int .i64 n)) (hne : nb ≠ b) (hcb : c ≠ nb) :
    Calls Try.prog 40 #[.iface 85 (.agg #[.pointer (some ⟨b, 0, none⟩)]), .pointer (some ⟨nb, j, none⟩), .int .i64 k] w fun e w' =>
      e = .returned (.tuple #[]) ∧ Mod (fun x => x = b ∨ x = nb) w w' ∧ Rd w' b c s (rdAt s a bad k) (rdBad s a bad k) ∧ Blk w' nb (C.setIfInBounds j (.int .i64 (rdNum s a bad k))) t := by
  have c0 := hn.cell hc
  have hm := method_r b
  have hu : IntKind.u64.wrap n = n := IntWalk.u64_in _ (by omega)
  have hr1 : Rd (w.alloc (.cells #[.int .u64 n] 24)) b c s a bad := h.mod ((Mod.refl (fun _ => False) _).alloc _) (by simp) (by simp)
  have hn1 := hn.alloc (.cells #[.int .u64 n] 24)
  have hbl := h.row.lt
  have hcl := h.box.lt
  have hnl := hn.lt
  have hv : 0 ≤ rdNum s a bad k ∧ rdNum s a bad k < 4294967296 := by
    have := numAt_bd s a k
    unfold rdNum
    split
    · omega
    · rcases hk with rfl | rfl | rfl | rfl <;> omega
  have hi : IntKind.i64.wrap (rdNum s a bad k) = rdNum s a bad k := IntWalk.i64_in _ (by omega)
  have hx := Lib.hid (rnum_calls k hk b c w.heap.size 0 s a bad n #[.int .u64 n] _ _ hr1 (Blk.new w #[.int .u64 n] 24) rfl (by omega) (by omega))
  go_enter Try.func40, Try.ntmps40
  go_wp2_with fail
  refine hx.out.mono ?_
  rintro e w1 ⟨rfl, hm1, hr2, hb2⟩
  have hn2 := hn1.mod hm1 (by omega)
  have c2 := hb2.cell (i := 0) rfl
  have c3 := hn2.cell hc
  have f3 := hn2.froz j
  go_wp2
  refine bodyPost_end (v := .tuple #[]) (by simp [results, Try.results40, go_sem]) rfl ⟨rfl, ?_, ?_, hn2.set _ _⟩
  · exact ((hm1.widen (T := fun x => (x = b ∨ x = nb) ∨ x = w.heap.size) (by intro k h; omega)).from_new).setCell (fun _ => .inr rfl) _
  · exact ⟨hr2.row.other (Ne.symm hne) _, hr2.box.other hcb _, hr2.small, hr2.inn⟩
end Go.Proofs.Ytcipdimnbleljaa
