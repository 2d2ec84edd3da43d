/-
  The document's side of layer 18: read, of the kinds without marks.
-/
import Derived.Test.YtcipdimnbleljaaRfM
import Derived.Test.YtcipdimnbleljaaRfC
namespace Go.Proofs.Ytcipdimnbleljaa
open Go.RowKit
open Extern.Stop (cell)

/-- a walk through read: the reader stands at x; D: the message's row -/
structure RdS (s : ByteArray) (b mb : Nat) (D : Array Value) (x : Nat × Bool) (w wx : World) : Prop where
  rd : Blk wx b #[.string (s.extract x.1 s.size), .bool x.2] 89
  m : Blk wx mb D 42
  z : Blk wx w.heap.size zero53 42
  mod : Mod (fun k => k = b) w wx
  inn : x.1 ≤ s.size
  sz : D.size = 53
  one : ∀ v ∈ D.toList, v.oneCell' = true
  hb : b < w.heap.size
  hm : w.heap.size < mb
section
variable {s : ByteArray} {b mb : Nat} {D : Array Value} {x : Nat × Bool} {w wx wy : World}
theorem RdS.call (h : RdS s b mb D x w wx) {k : Nat} (hB : Blk wy b #[.string (s.extract (rdAt s x.1 x.2 k) s.size), .bool (rdBad s x.1 x.2 k)] 89) (hm : Mod (fun k => k = b) wx wy) : RdS s b mb D (stp s x k) w wy :=
  have h1 := h.hb
  have h2 := h.hm
  ⟨hB, h.m.mod hm (by omega), h.z.mod hm (by omega), h.mod.trans hm, rdAt_le h.inn, h.sz, h.one, h.hb, h.hm⟩
theorem set_one {D : Array Value} (h : ∀ v ∈ D.toList, v.oneCell' = true) (o : Nat) {v : Value} (hv : v.oneCell' = true) : ∀ u ∈ (D.setIfInBounds o v).toList, u.oneCell' = true := by
  intro u hu
  rw [Array.toList_setIfInBounds] at hu
  rcases List.mem_or_eq_of_mem_set hu with g | g
  · exact h u g
  · subst g; exact hv
theorem RdS.cell (h : RdS s b mb D x w wx) (o : Nat) (v : Value) (hv : v.oneCell' = true) : RdS s b mb (D.setIfInBounds o v) x w (wx.setCell ⟨mb, o, none⟩ v) :=
  have h1 := h.hb
  have h2 := h.hm
  ⟨h.rd.other (by show b ≠ mb; omega) _, h.m.set o v, h.z.other (by show w.heap.size ≠ mb; omega) _, h.mod.setCell (fun g => by simp at g; omega) _, h.inn, by rw [Array.size_setIfInBounds]; exact h.sz, set_one h.one o hv, h.hb, h.hm⟩
theorem RdS.get (h : RdS s b mb D x w wx) {o : Nat} (ho : o < 53) : wx.cell? ⟨mb, o, none⟩ = some (D[o]'(by rw [h.sz]; exact ho)) := h.m.cell (Array.getElem?_eq_getElem (by rw [h.sz]; exact ho))
end
theorem wpList_stp {P : Program} {ops : Array Oper} {rest : List Oper} {o : Oper} {a : Act} {w w' : World} {Q : Exit → Act → World → Prop} (hgd : o.guard = none) (ty : TypeId) (x y : Operand) (ho : o.op = .store ty x y) (hdst : o.dst = none) (p : Addr) (hx : a.eval x = .pointer (some p)) (cs : Array Value) (hy : a.eval y = .agg cs)
    (hrun : (storeVar ty p (.agg cs)).run P w = .ok () w') (h : wpList P ops Q rest a w') : wpList P ops Q (o :: rest) a w :=
  wpList_plain hgd fun K_ hK => by
    unfold Oper.wp execOp
    simp only [ho, hx, hy, Instr.storeAt, Instr.sureAddr, Sem.run_bind, Sem.run_pure, Result.andThen_ok, hrun]
    show K_ (a.put o.dst undef) _
    rw [hdst]
    exact hK _ _ h
theorem RdS.calld {s : ByteArray} {b mb : Nat} {D : Array Value} {x : Nat × Bool} {w wx wy : World} (h : RdS s b mb D x w wx) (hB : Blk wy b #[.string (s.extract (dgA s x.1 x.2 32).1 s.size), .bool (dgA s x.1 x.2 32).2] 89) (hm : Mod (fun k => k = b) wx wy) : RdS s b mb D (dgA s x.1 x.2 32) w wy :=
  have h1 := h.hb
  have h2 := h.hm
  ⟨hB, h.m.mod hm (by omega), h.z.mod hm (by omega), h.mod.trans hm, dgA_le h.inn 32, h.sz, h.one, h.hb, h.hm⟩
theorem RdS.part {s : ByteArray} {b mb : Nat} {D R : Array Value} {x : Nat × Bool} {w wx : World} (h : RdS s b mb D x w wx) (hR : R.size = 32) (h1R : ∀ v ∈ R.toList, v.oneCell' = true) : RdS s b mb (D.toList.take 15 ++ R.toList ++ D.toList.drop (15 + R.size)).toArray x w (wx.setRow mb (D.toList.take 15 ++ R.toList ++ D.toList.drop (15 + R.size)).toArray) :=
  have h1 := h.hb
  have h2 := h.hm
  have hm : Mod (fun k => k = mb) wx (wx.setRow mb (D.toList.take 15 ++ R.toList ++ D.toList.drop (15 + R.size)).toArray) := ⟨rfl, rfl, rfl, by simp [World.setRow], fun k _ hk => setRow_other wx mb k _ hk⟩
  have hmw : Mod (fun k => k = b) w (wx.setRow mb (D.toList.take 15 ++ R.toList ++ D.toList.drop (15 + R.size)).toArray) :=
    ⟨hm.os.trans h.mod.os, hm.tape.trans h.mod.tape, hm.output.trans h.mod.output, Nat.le_trans h.mod.size hm.size, fun k hk hs => (hm.block k (Nat.lt_of_lt_of_le hk h.mod.size) (by omega)).trans (h.mod.block k hk hs)⟩
  ⟨h.rd.mod hm (by show ¬ b = mb; omega), setRow_heap wx mb _ _ _ (0, 0) h.m, h.z.mod hm (by show ¬ w.heap.size = mb; omega), hmw, h.inn, by rw [splice_size _ _ _ (by rw [hR, h.sz]; omega)]; exact h.sz,
    (by
      intro v hv
      simp only [List.mem_append] at hv
      rcases hv with (g | g) | g
      · exact h.one v (List.mem_of_mem_take g)
      · exact h1R v g
      · exact h.one v (List.mem_of_mem_drop g)), h.hb, h.hm⟩
theorem dg_splice (s : ByteArray) (a : Nat) (bad : Bool) (D : Array Value) (hD : D.size = 53) : (D.toList.take 15 ++ (dgRow s a bad zero32 0 32).toList ++ D.toList.drop (15 + (dgRow s a bad zero32 0 32).size)).toArray = dgRow s a bad D 15 32 := by
  have hz : (dgRow s a bad zero32 0 32).size = 32 := by rw [dgRow_size]; rfl
  apply Array.ext_getElem?
  intro i
  rw [splice_get _ _ _ (by rw [hz, hD]; omega), hz, dgRow_get, dgRow_get]
  have hz2 : zero32.size = 32 := rfl
  by_cases h : 15 ≤ i ∧ i < 15 + 32
  · rw [if_pos h, if_pos ⟨by omega, by omega, by omega⟩, if_pos ⟨h.1, h.2, by omega⟩]
    rfl
  · rw [if_neg h, if_neg (by omega)]
/-- what read leaves -/
def ReadPost (s : ByteArray) (b : Nat) (k : Int) (w : World) (e : Ending) (w' : World) : Prop :=
  ∃ C a bad, e = .returned (.agg C) ∧ (C.size = 53 ∧ ∀ v ∈ C.toList, v.oneCell' = true) ∧ Blk w' b #[.string (s.extract a s.size), .bool bad] 89 ∧ Mod (fun x => x = b) w w' ∧ (s.size < widS k s → bad = true) ∧
    (widS k s ≤ s.size → bad = false ∧ a = widS k s ∧ ∃ p, MsgOf C (decM k s p) ∧ MarksAt w' (decM k s p))

set_option maxHeartbeats 4000000 in
set_option maxRecDepth 100000 in
theorem read4 (s : ByteArray) (b : Nat) (w : World) (hB : Blk w b #[.string s, .bool false] 89) (hs : s.size ≤ 140737488351232) :
    Calls Try.prog 36 #[.pointer (some ⟨b, 0, none⟩), .int .i64 4] w (ReadPost s b 4 w) := by
  have hbl := hB.lt
  have e0 : s.extract 0 s.size = s := ByteArray.extract_zero_size
  have hB0 : Blk w b #[.string (s.extract 0 s.size), .bool false] 89 := by rw [e0]; exact hB
  clear e0 hB
  go_enter Try.func36, Try.ntmps36
  go_upto_region 1 with fail
  refine wp_world' (fun wx => Blk wx w.heap.size zero53 42 ∧ Blk wx b #[.string (s.extract 0 s.size), .bool false] 89 ∧ Mod (fun k => k = b) w wx ∧ w.heap.size < wx.heap.size) ⟨Blk.new w _ _, hB0.alloc _, (Mod.refl _ w).alloc _, by simp⟩ ?_
  rintro wa ⟨hZ, hBa, hma, hlt⟩
  have hn0 := Lib.hid (small_calls s 0 b 1 false wa hBa (by omega) (by omega) hs)
  have hZ0 := Lib.hid hZ
  clear hB0 hBa hZ
  go_wp2_with fail
  refine hn0.out.mono ?_
  rintro e wb ⟨rfl, hB1, hm1⟩
  have hZ1 := hZ0.out.mod hm1 (by omega)
  have hmb := hma.trans hm1
  have hlb : w.heap.size < wb.heap.size := Nat.lt_of_lt_of_le hlt hm1.size
  obtain ⟨x0, hx0⟩ : ∃ y, stp s (0, false) 1 = y := ⟨_, rfl⟩
  obtain ⟨v0, hv0⟩ : ∃ y, rdNum s 0 false 1 = y := ⟨_, rfl⟩
  replace hB1 : Blk wb b #[.string (s.extract (stp s (0, false) 1).1 s.size), .bool (stp s (0, false) 1).2] 89 := hB1
  have hin : (stp s (0, false) 1).1 ≤ s.size := rdAt_le (by omega)
  rw [hx0] at hB1 hin
  rw [hv0]
  have hru := Lib.hid (run_two 4 v0)
  have hs0 := Lib.hid (show zero53.size = ((zero53.setIfInBounds 0 (.int .i64 4)).setIfInBounds 1 (.int .i64 v0)).size by simp)
  have hs1 := Lib.hid (two_one 4 v0)
  have hs2 := Lib.hid (msg_size ((zero53.setIfInBounds 0 (.int .i64 4)).setIfInBounds 1 (.int .i64 v0)) (by simp; rfl))
  obtain ⟨D0, hD0⟩ : ∃ X, (zero53.setIfInBounds 0 (.int .i64 4)).setIfInBounds 1 (.int .i64 v0) = X := ⟨_, rfl⟩
  rw [hD0] at hru hs0 hs1 hs2
  have HB1 := Lib.hid hB1
  have HZ1 := Lib.hid hZ1
  have HL := Lib.hid hlb
  clear hB1 hZ1 hn0 hZ0 hma hm1 hlt hlb
  go_upto_region 2 with (first | (refine wpList_build2_v rfl 42 0 1 _ _ rfl (.int .i64 4) (.int .i64 v0) rfl rfl (.agg D0) (hru.out _) ?_) | (refine wpList_store_new rfl 42 _ _ rfl rfl rfl _ D0 _ rfl (by exact hs0.out) hs1.out hs2.out ?_))
  refine wp_world' (fun wx => RdS s b wb.heap.size D0 x0 w wx) ⟨HB1.out.alloc _, Blk.new _ _ _, HZ1.out.alloc _, hmb.alloc _, hin, hs0.out.symm, hs1.out, hbl, HL.out⟩ ?_
  rintro w0 h0
  generalize wb.heap.size = mb at *
  clear HB1 HZ1 HL hru hs0 hs1 hs2 hmb hin
  have hn1 := Lib.hid (small_calls s x0.1 b 1 x0.2 w0 h0.rd h0.inn (by omega) hs)
  have bd1 := rdNum_bd s x0.1 x0.2 1
  go_wp2_with fail
  refine hn1.out.mono ?_
  rintro e w1c ⟨rfl, hB1, hm1⟩
  have h1c := h0.call hB1 hm1
  obtain ⟨x1, hx1⟩ : ∃ y, stp s x0 1 = y := ⟨_, rfl⟩
  obtain ⟨v1, hv1⟩ : ∃ y, rdNum s x0.1 x0.2 1 = y := ⟨_, rfl⟩
  rw [hx1] at h1c
  rw [hv1] at bd1 ⊢
  have c1 := h1c.get (o := 2) (by omega)
  have f1 := h1c.m.froz 2
  clear hB1 hm1 hn1 h0
  go_upto_region 28 with fail
  refine wp_world' (fun wx => RdS s b mb (D0.setIfInBounds 2 (.int .i64 v1)) x1 w wx) (h1c.cell 2 _ rfl) ?_
  rintro w1 h1
  obtain ⟨D1, hD1⟩ : ∃ X, D0.setIfInBounds 2 (.int .i64 v1) = X := ⟨_, rfl⟩
  rw [hD1] at h1
  clear c1 f1 h1c
  have hn2 := Lib.hid (numd_calls s x1.1 b 8 x1.2 w1 h1.rd h1.inn (by omega) hs)
  have bd2 := rdNum_bd s x1.1 x1.2 8
  go_wp2_with fail
  refine hn2.out.mono ?_
  rintro e w2c ⟨rfl, hB2, hm2⟩
  have h2c := h1.call hB2 hm2
  obtain ⟨x2, hx2⟩ : ∃ y, stp s x1 8 = y := ⟨_, rfl⟩
  obtain ⟨v2, hv2⟩ : ∃ y, rdNum s x1.1 x1.2 8 = y := ⟨_, rfl⟩
  rw [hx2] at h2c
  rw [hv2] at bd2 ⊢
  have c2 := h2c.get (o := 48) (by omega)
  have f2 := h2c.m.froz 48
  clear hB2 hm2 hn2 h1
  go_upto_region 29 with fail
  refine wp_world' (fun wx => RdS s b mb (D1.setIfInBounds 48 (.int .u64 v2)) x2 w wx) (h2c.cell 48 _ rfl) ?_
  rintro w2 h2
  obtain ⟨D2, hD2⟩ : ∃ X, D1.setIfInBounds 48 (.int .u64 v2) = X := ⟨_, rfl⟩
  rw [hD2] at h2
  clear c2 f2 h2c
  have hn3 := Lib.hid (numd_calls s x2.1 b 8 x2.2 w2 h2.rd h2.inn (by omega) hs)
  have bd3 := rdNum_bd s x2.1 x2.2 8
  go_wp2_with fail
  refine hn3.out.mono ?_
  rintro e w3c ⟨rfl, hB3, hm3⟩
  have h3c := h2.call hB3 hm3
  obtain ⟨x3, hx3⟩ : ∃ y, stp s x2 8 = y := ⟨_, rfl⟩
  obtain ⟨v3, hv3⟩ : ∃ y, rdNum s x2.1 x2.2 8 = y := ⟨_, rfl⟩
  rw [hx3] at h3c
  rw [hv3] at bd3 ⊢
  have c3 := h3c.get (o := 49) (by omega)
  have f3 := h3c.m.froz 49
  clear hB3 hm3 hn3 h2
  go_upto_region 34 with fail
  refine wp_world' (fun wx => RdS s b mb (D2.setIfInBounds 49 (.int .u64 v3)) x3 w wx) (h3c.cell 49 _ rfl) ?_
  rintro w3 h3
  obtain ⟨D3, hD3⟩ : ∃ X, D2.setIfInBounds 49 (.int .u64 v3) = X := ⟨_, rfl⟩
  rw [hD3] at h3
  clear c3 f3 h3c
  have HZ := Lib.hid h3.z
  have hone : Hid (∀ v ∈ D3.toList, v.oneCell' = true) := Lib.hid h3.one
  have hsz := Lib.hid (msg_size D3 h3.sz)
  have hzs := Lib.hid (show zero53.size = D3.size by rw [h3.sz]; rfl)
  have hld := Lib.hid (run_load_row' (P := Try.prog) w3 mb 42 _ 42 _ h3.m Try.underlying42 rfl (msg_size _ h3.sz))
  go_wp2_with (first | (refine wpList_load_v rfl 42 _ rfl ⟨mb, 0, none⟩ rfl _ hld.out ?_) | (refine wpList_store_row2 rfl 42 _ _ rfl rfl w.heap.size rfl zero53 D3 42 HZ.out rfl (by exact hzs.out) hone.out hsz.out ?_; intro wz hBz hmz))
  (try simp only [Exit.inBlock, Exit.then])
  have hx : x3 = stps s (0, false) [1, 1, 8, 8] := by rw [← hx3, ← hx2, ← hx1, ← hx0]; rfl
  refine bodyPost_ret (results_cell_row rfl _ _ w.heap.size _ _ _ _ rfl hBz Try.underlying42 rfl hsz.out) rfl ⟨D3, x3.1, x3.2, rfl, ⟨h3.sz, h3.one⟩, h3.rd.mod hmz (by omega), ⟨hmz.os.trans h3.mod.os, hmz.tape.trans h3.mod.tape, hmz.output.trans h3.mod.output, Nat.le_trans h3.mod.size hmz.size, fun k hk hs => (hmz.block k (Nat.lt_of_lt_of_le hk h3.mod.size) (by omega)).trans (h3.mod.block k hk hs)⟩, ?_, ?_⟩
  · intro hsh
    rw [hx]
    exact stps_no _ 0 (by omega) (by simpa [widS] using hsh)
  · intro hok
    have hok' : 18 ≤ s.size := by simpa [widS] using hok
    have y0 : x0 = (1, false) := by rw [← hx0, stp_ok (by omega)]
    have u0 : v0 = numAt s 0 1 := by rw [← hv0, num_ok (by omega)]
    have y1 : x1 = (2, false) := by rw [← hx1, y0, stp_ok (by omega)]
    have u1 : v1 = numAt s 1 1 := by rw [← hv1, y0]; exact num_ok (by omega)
    have y2 : x2 = (10, false) := by rw [← hx2, y1, stp_ok (by omega)]
    have u2 : v2 = numAt s 2 8 := by rw [← hv2, y1]; exact num_ok (by omega)
    have y3 : x3 = (18, false) := by rw [← hx3, y2, stp_ok (by omega)]
    have u3 : v3 = numAt s 10 8 := by rw [← hv3, y2]; exact num_ok (by omega)
    refine ⟨by rw [y3], by rw [y3]; rfl, none, ?_, marks_none (by omega)⟩
    have hr := row4 (s := s) (bare_of 4)
    rw [← hD3, ← hD2, ← hD1, ← hD0, u0, u1, u2, u3]
    exact hr

set_option maxHeartbeats 4000000 in
set_option maxRecDepth 100000 in
theorem read5 (s : ByteArray) (b : Nat) (w : World) (hB : Blk w b #[.string s, .bool false] 89) (hs : s.size ≤ 140737488351232) :
    Calls Try.prog 36 #[.pointer (some ⟨b, 0, none⟩), .int .i64 5] w (ReadPost s b 5 w) := by
  have hbl := hB.lt
  have e0 : s.extract 0 s.size = s := ByteArray.extract_zero_size
  have hB0 : Blk w b #[.string (s.extract 0 s.size), .bool false] 89 := by rw [e0]; exact hB
  clear e0 hB
  go_enter Try.func36, Try.ntmps36
  go_upto_region 1 with fail
  refine wp_world' (fun wx => Blk wx w.heap.size zero53 42 ∧ Blk wx b #[.string (s.extract 0 s.size), .bool false] 89 ∧ Mod (fun k => k = b) w wx ∧ w.heap.size < wx.heap.size) ⟨Blk.new w _ _, hB0.alloc _, (Mod.refl _ w).alloc _, by simp⟩ ?_
  rintro wa ⟨hZ, hBa, hma, hlt⟩
  have hn0 := Lib.hid (small_calls s 0 b 1 false wa hBa (by omega) (by omega) hs)
  have hZ0 := Lib.hid hZ
  clear hB0 hBa hZ
  go_wp2_with fail
  refine hn0.out.mono ?_
  rintro e wb ⟨rfl, hB1, hm1⟩
  have hZ1 := hZ0.out.mod hm1 (by omega)
  have hmb := hma.trans hm1
  have hlb : w.heap.size < wb.heap.size := Nat.lt_of_lt_of_le hlt hm1.size
  obtain ⟨x0, hx0⟩ : ∃ y, stp s (0, false) 1 = y := ⟨_, rfl⟩
  obtain ⟨v0, hv0⟩ : ∃ y, rdNum s 0 false 1 = y := ⟨_, rfl⟩
  replace hB1 : Blk wb b #[.string (s.extract (stp s (0, false) 1).1 s.size), .bool (stp s (0, false) 1).2] 89 := hB1
  have hin : (stp s (0, false) 1).1 ≤ s.size := rdAt_le (by omega)
  rw [hx0] at hB1 hin
  rw [hv0]
  have hru := Lib.hid (run_two 5 v0)
  have hs0 := Lib.hid (show zero53.size = ((zero53.setIfInBounds 0 (.int .i64 5)).setIfInBounds 1 (.int .i64 v0)).size by simp)
  have hs1 := Lib.hid (two_one 5 v0)
  have hs2 := Lib.hid (msg_size ((zero53.setIfInBounds 0 (.int .i64 5)).setIfInBounds 1 (.int .i64 v0)) (by simp; rfl))
  obtain ⟨D0, hD0⟩ : ∃ X, (zero53.setIfInBounds 0 (.int .i64 5)).setIfInBounds 1 (.int .i64 v0) = X := ⟨_, rfl⟩
  rw [hD0] at hru hs0 hs1 hs2
  have HB1 := Lib.hid hB1
  have HZ1 := Lib.hid hZ1
  have HL := Lib.hid hlb
  clear hB1 hZ1 hn0 hZ0 hma hm1 hlt hlb
  go_upto_region 2 with (first | (refine wpList_build2_v rfl 42 0 1 _ _ rfl (.int .i64 5) (.int .i64 v0) rfl rfl (.agg D0) (hru.out _) ?_) | (refine wpList_store_new rfl 42 _ _ rfl rfl rfl _ D0 _ rfl (by exact hs0.out) hs1.out hs2.out ?_))
  refine wp_world' (fun wx => RdS s b wb.heap.size D0 x0 w wx) ⟨HB1.out.alloc _, Blk.new _ _ _, HZ1.out.alloc _, hmb.alloc _, hin, hs0.out.symm, hs1.out, hbl, HL.out⟩ ?_
  rintro w0 h0
  generalize wb.heap.size = mb at *
  clear HB1 HZ1 HL hru hs0 hs1 hs2 hmb hin
  have hn1 := Lib.hid (small_calls s x0.1 b 1 x0.2 w0 h0.rd h0.inn (by omega) hs)
  have bd1 := rdNum_bd s x0.1 x0.2 1
  go_wp2_with fail
  refine hn1.out.mono ?_
  rintro e w1c ⟨rfl, hB1, hm1⟩
  have h1c := h0.call hB1 hm1
  obtain ⟨x1, hx1⟩ : ∃ y, stp s x0 1 = y := ⟨_, rfl⟩
  obtain ⟨v1, hv1⟩ : ∃ y, rdNum s x0.1 x0.2 1 = y := ⟨_, rfl⟩
  rw [hx1] at h1c
  rw [hv1] at bd1 ⊢
  have c1 := h1c.get (o := 50) (by omega)
  have f1 := h1c.m.froz 50
  clear hB1 hm1 hn1 h0
  go_upto_region 32 with fail
  refine wp_world' (fun wx => RdS s b mb (D0.setIfInBounds 50 (.int .i64 v1)) x1 w wx) (h1c.cell 50 _ rfl) ?_
  rintro w1 h1
  obtain ⟨D1, hD1⟩ : ∃ X, D0.setIfInBounds 50 (.int .i64 v1) = X := ⟨_, rfl⟩
  rw [hD1] at h1
  clear c1 f1 h1c
  have hn2 := Lib.hid (small_calls s x1.1 b 1 x1.2 w1 h1.rd h1.inn (by omega) hs)
  have bd2 := rdNum_bd s x1.1 x1.2 1
  go_wp2_with fail
  refine hn2.out.mono ?_
  rintro e w2c ⟨rfl, hB2, hm2⟩
  have h2c := h1.call hB2 hm2
  obtain ⟨x2, hx2⟩ : ∃ y, stp s x1 1 = y := ⟨_, rfl⟩
  obtain ⟨v2, hv2⟩ : ∃ y, rdNum s x1.1 x1.2 1 = y := ⟨_, rfl⟩
  rw [hx2] at h2c
  rw [hv2] at bd2 ⊢
  have c2 := h2c.get (o := 51) (by omega)
  have f2 := h2c.m.froz 51
  have s2 : IntKind.i64.wrap (v2 - 1) = v2 - 1 := IntWalk.i64_in _ (by simp at bd2; omega)
  clear hB2 hm2 hn2 h1
  go_upto_region 33 with fail
  refine wp_world' (fun wx => RdS s b mb (D1.setIfInBounds 51 (.int .i64 (v2 - 1))) x2 w wx) (h2c.cell 51 _ rfl) ?_
  rintro w2 h2
  obtain ⟨D2, hD2⟩ : ∃ X, D1.setIfInBounds 51 (.int .i64 (v2 - 1)) = X := ⟨_, rfl⟩
  rw [hD2] at h2
  clear c2 f2 h2c
  have hn3 := Lib.hid (numd_calls s x2.1 b 8 x2.2 w2 h2.rd h2.inn (by omega) hs)
  have bd3 := rdNum_bd s x2.1 x2.2 8
  go_wp2_with fail
  refine hn3.out.mono ?_
  rintro e w3c ⟨rfl, hB3, hm3⟩
  have h3c := h2.call hB3 hm3
  obtain ⟨x3, hx3⟩ : ∃ y, stp s x2 8 = y := ⟨_, rfl⟩
  obtain ⟨v3, hv3⟩ : ∃ y, rdNum s x2.1 x2.2 8 = y := ⟨_, rfl⟩
  rw [hx3] at h3c
  rw [hv3] at bd3 ⊢
  have c3 := h3c.get (o := 52) (by omega)
  have f3 := h3c.m.froz 52
  clear hB3 hm3 hn3 h2
  go_upto_region 34 with fail
  refine wp_world' (fun wx => RdS s b mb (D2.setIfInBounds 52 (.int .u64 v3)) x3 w wx) (h3c.cell 52 _ rfl) ?_
  rintro w3 h3
  obtain ⟨D3, hD3⟩ : ∃ X, D2.setIfInBounds 52 (.int .u64 v3) = X := ⟨_, rfl⟩
  rw [hD3] at h3
  clear c3 f3 h3c
  have HZ := Lib.hid h3.z
  have hone : Hid (∀ v ∈ D3.toList, v.oneCell' = true) := Lib.hid h3.one
  have hsz := Lib.hid (msg_size D3 h3.sz)
  have hzs := Lib.hid (show zero53.size = D3.size by rw [h3.sz]; rfl)
  have hld := Lib.hid (run_load_row' (P := Try.prog) w3 mb 42 _ 42 _ h3.m Try.underlying42 rfl (msg_size _ h3.sz))
  go_wp2_with (first | (refine wpList_load_v rfl 42 _ rfl ⟨mb, 0, none⟩ rfl _ hld.out ?_) | (refine wpList_store_row2 rfl 42 _ _ rfl rfl w.heap.size rfl zero53 D3 42 HZ.out rfl (by exact hzs.out) hone.out hsz.out ?_; intro wz hBz hmz))
  (try simp only [Exit.inBlock, Exit.then])
  have hx : x3 = stps s (0, false) [1, 1, 1, 8] := by rw [← hx3, ← hx2, ← hx1, ← hx0]; rfl
  refine bodyPost_ret (results_cell_row rfl _ _ w.heap.size _ _ _ _ rfl hBz Try.underlying42 rfl hsz.out) rfl ⟨D3, x3.1, x3.2, rfl, ⟨h3.sz, h3.one⟩, h3.rd.mod hmz (by omega), ⟨hmz.os.trans h3.mod.os, hmz.tape.trans h3.mod.tape, hmz.output.trans h3.mod.output, Nat.le_trans h3.mod.size hmz.size, fun k hk hs => (hmz.block k (Nat.lt_of_lt_of_le hk h3.mod.size) (by omega)).trans (h3.mod.block k hk hs)⟩, ?_, ?_⟩
  · intro hsh
    rw [hx]
    exact stps_no _ 0 (by omega) (by simpa [widS] using hsh)
  · intro hok
    have hok' : 11 ≤ s.size := by simpa [widS] using hok
    have y0 : x0 = (1, false) := by rw [← hx0, stp_ok (by omega)]
    have u0 : v0 = numAt s 0 1 := by rw [← hv0, num_ok (by omega)]
    have y1 : x1 = (2, false) := by rw [← hx1, y0, stp_ok (by omega)]
    have u1 : v1 = numAt s 1 1 := by rw [← hv1, y0]; exact num_ok (by omega)
    have y2 : x2 = (3, false) := by rw [← hx2, y1, stp_ok (by omega)]
    have u2 : v2 = numAt s 2 1 := by rw [← hv2, y1]; exact num_ok (by omega)
    have y3 : x3 = (11, false) := by rw [← hx3, y2, stp_ok (by omega)]
    have u3 : v3 = numAt s 3 8 := by rw [← hv3, y2]; exact num_ok (by omega)
    refine ⟨by rw [y3], by rw [y3]; rfl, none, ?_, marks_none (by omega)⟩
    have hr := row5 (s := s) (bare_of 5)
    rw [← hD3, ← hD2, ← hD1, ← hD0, u0, u1, u2, u3]
    exact hr

set_option maxHeartbeats 4000000 in
set_option maxRecDepth 100000 in
theorem read1 (s : ByteArray) (b : Nat) (w : World) (hB : Blk w b #[.string s, .bool false] 89) (hs : s.size ≤ 140737488351232) :
    Calls Try.prog 36 #[.pointer (some ⟨b, 0, none⟩), .int .i64 1] w (ReadPost s b 1 w) := by
  have hbl := hB.lt
  have e0 : s.extract 0 s.size = s := ByteArray.extract_zero_size
  have hB0 : Blk w b #[.string (s.extract 0 s.size), .bool false] 89 := by rw [e0]; exact hB
  clear e0 hB
  go_enter Try.func36, Try.ntmps36
  go_upto_region 1 with fail
  refine wp_world' (fun wx => Blk wx w.heap.size zero53 42 ∧ Blk wx b #[.string (s.extract 0 s.size), .bool false] 89 ∧ Mod (fun k => k = b) w wx ∧ w.heap.size < wx.heap.size) ⟨Blk.new w _ _, hB0.alloc _, (Mod.refl _ w).alloc _, by simp⟩ ?_
  rintro wa ⟨hZ, hBa, hma, hlt⟩
  have hn0 := Lib.hid (small_calls s 0 b 1 false wa hBa (by omega) (by omega) hs)
  have hZ0 := Lib.hid hZ
  clear hB0 hBa hZ
  go_wp2_with fail
  refine hn0.out.mono ?_
  rintro e wb ⟨rfl, hB1, hm1⟩
  have hZ1 := hZ0.out.mod hm1 (by omega)
  have hmb := hma.trans hm1
  have hlb : w.heap.size < wb.heap.size := Nat.lt_of_lt_of_le hlt hm1.size
  obtain ⟨x0, hx0⟩ : ∃ y, stp s (0, false) 1 = y := ⟨_, rfl⟩
  obtain ⟨v0, hv0⟩ : ∃ y, rdNum s 0 false 1 = y := ⟨_, rfl⟩
  replace hB1 : Blk wb b #[.string (s.extract (stp s (0, false) 1).1 s.size), .bool (stp s (0, false) 1).2] 89 := hB1
  have hin : (stp s (0, false) 1).1 ≤ s.size := rdAt_le (by omega)
  rw [hx0] at hB1 hin
  rw [hv0]
  have hru := Lib.hid (run_two 1 v0)
  have hs0 := Lib.hid (show zero53.size = ((zero53.setIfInBounds 0 (.int .i64 1)).setIfInBounds 1 (.int .i64 v0)).size by simp)
  have hs1 := Lib.hid (two_one 1 v0)
  have hs2 := Lib.hid (msg_size ((zero53.setIfInBounds 0 (.int .i64 1)).setIfInBounds 1 (.int .i64 v0)) (by simp; rfl))
  obtain ⟨D0, hD0⟩ : ∃ X, (zero53.setIfInBounds 0 (.int .i64 1)).setIfInBounds 1 (.int .i64 v0) = X := ⟨_, rfl⟩
  rw [hD0] at hru hs0 hs1 hs2
  have HB1 := Lib.hid hB1
  have HZ1 := Lib.hid hZ1
  have HL := Lib.hid hlb
  clear hB1 hZ1 hn0 hZ0 hma hm1 hlt hlb
  go_upto_region 2 with (first | (refine wpList_build2_v rfl 42 0 1 _ _ rfl (.int .i64 1) (.int .i64 v0) rfl rfl (.agg D0) (hru.out _) ?_) | (refine wpList_store_new rfl 42 _ _ rfl rfl rfl _ D0 _ rfl (by exact hs0.out) hs1.out hs2.out ?_))
  refine wp_world' (fun wx => RdS s b wb.heap.size D0 x0 w wx) ⟨HB1.out.alloc _, Blk.new _ _ _, HZ1.out.alloc _, hmb.alloc _, hin, hs0.out.symm, hs1.out, hbl, HL.out⟩ ?_
  rintro w0 h0
  generalize wb.heap.size = mb at *
  clear HB1 HZ1 HL hru hs0 hs1 hs2 hmb hin
  have hn1 := Lib.hid (small_calls s x0.1 b 1 x0.2 w0 h0.rd h0.inn (by omega) hs)
  have bd1 := rdNum_bd s x0.1 x0.2 1
  go_wp2_with fail
  refine hn1.out.mono ?_
  rintro e w1c ⟨rfl, hB1, hm1⟩
  have h1c := h0.call hB1 hm1
  obtain ⟨x1, hx1⟩ : ∃ y, stp s x0 1 = y := ⟨_, rfl⟩
  obtain ⟨v1, hv1⟩ : ∃ y, rdNum s x0.1 x0.2 1 = y := ⟨_, rfl⟩
  rw [hx1] at h1c
  rw [hv1] at bd1 ⊢
  have c1 := h1c.get (o := 3) (by omega)
  have f1 := h1c.m.froz 3
  clear hB1 hm1 hn1 h0
  go_upto_region 5 with fail
  refine wp_world' (fun wx => RdS s b mb (D0.setIfInBounds 3 (.int .i64 v1)) x1 w wx) (h1c.cell 3 _ rfl) ?_
  rintro w1 h1
  obtain ⟨D1, hD1⟩ : ∃ X, D0.setIfInBounds 3 (.int .i64 v1) = X := ⟨_, rfl⟩
  rw [hD1] at h1
  clear c1 f1 h1c
  have hn2 := Lib.hid (small_calls s x1.1 b 4 x1.2 w1 h1.rd h1.inn (by omega) hs)
  have bd2 := rdNum_bd s x1.1 x1.2 4
  go_wp2_with fail
  refine hn2.out.mono ?_
  rintro e w2c ⟨rfl, hB2, hm2⟩
  have h2c := h1.call hB2 hm2
  obtain ⟨x2, hx2⟩ : ∃ y, stp s x1 4 = y := ⟨_, rfl⟩
  obtain ⟨v2, hv2⟩ : ∃ y, rdNum s x1.1 x1.2 4 = y := ⟨_, rfl⟩
  rw [hx2] at h2c
  rw [hv2] at bd2 ⊢
  have c2 := h2c.get (o := 4) (by omega)
  have f2 := h2c.m.froz 4
  clear hB2 hm2 hn2 h1
  go_upto_region 6 with fail
  refine wp_world' (fun wx => RdS s b mb (D1.setIfInBounds 4 (.int .i64 v2)) x2 w wx) (h2c.cell 4 _ rfl) ?_
  rintro w2 h2
  obtain ⟨D2, hD2⟩ : ∃ X, D1.setIfInBounds 4 (.int .i64 v2) = X := ⟨_, rfl⟩
  rw [hD2] at h2
  clear c2 f2 h2c
  have hn3 := Lib.hid (small_calls s x2.1 b 2 x2.2 w2 h2.rd h2.inn (by omega) hs)
  have bd3 := rdNum_bd s x2.1 x2.2 2
  go_wp2_with fail
  refine hn3.out.mono ?_
  rintro e w3c ⟨rfl, hB3, hm3⟩
  have h3c := h2.call hB3 hm3
  obtain ⟨x3, hx3⟩ : ∃ y, stp s x2 2 = y := ⟨_, rfl⟩
  obtain ⟨v3, hv3⟩ : ∃ y, rdNum s x2.1 x2.2 2 = y := ⟨_, rfl⟩
  rw [hx3] at h3c
  rw [hv3] at bd3 ⊢
  have c3 := h3c.get (o := 5) (by omega)
  have f3 := h3c.m.froz 5
  clear hB3 hm3 hn3 h2
  go_upto_region 7 with fail
  refine wp_world' (fun wx => RdS s b mb (D2.setIfInBounds 5 (.int .i64 v3)) x3 w wx) (h3c.cell 5 _ rfl) ?_
  rintro w3 h3
  obtain ⟨D3, hD3⟩ : ∃ X, D2.setIfInBounds 5 (.int .i64 v3) = X := ⟨_, rfl⟩
  rw [hD3] at h3
  clear c3 f3 h3c
  have hn4 := Lib.hid (small_calls s x3.1 b 2 x3.2 w3 h3.rd h3.inn (by omega) hs)
  have bd4 := rdNum_bd s x3.1 x3.2 2
  go_wp2_with fail
  refine hn4.out.mono ?_
  rintro e w4c ⟨rfl, hB4, hm4⟩
  have h4c := h3.call hB4 hm4
  obtain ⟨x4, hx4⟩ : ∃ y, stp s x3 2 = y := ⟨_, rfl⟩
  obtain ⟨v4, hv4⟩ : ∃ y, rdNum s x3.1 x3.2 2 = y := ⟨_, rfl⟩
  rw [hx4] at h4c
  rw [hv4] at bd4 ⊢
  have c4 := h4c.get (o := 6) (by omega)
  have f4 := h4c.m.froz 6
  clear hB4 hm4 hn4 h3
  go_upto_region 8 with fail
  refine wp_world' (fun wx => RdS s b mb (D3.setIfInBounds 6 (.int .i64 v4)) x4 w wx) (h4c.cell 6 _ rfl) ?_
  rintro w4 h4
  obtain ⟨D4, hD4⟩ : ∃ X, D3.setIfInBounds 6 (.int .i64 v4) = X := ⟨_, rfl⟩
  rw [hD4] at h4
  clear c4 f4 h4c
  have hn5 := Lib.hid (small_calls s x4.1 b 2 x4.2 w4 h4.rd h4.inn (by omega) hs)
  have bd5 := rdNum_bd s x4.1 x4.2 2
  go_wp2_with fail
  refine hn5.out.mono ?_
  rintro e w5c ⟨rfl, hB5, hm5⟩
  have h5c := h4.call hB5 hm5
  obtain ⟨x5, hx5⟩ : ∃ y, stp s x4 2 = y := ⟨_, rfl⟩
  obtain ⟨v5, hv5⟩ : ∃ y, rdNum s x4.1 x4.2 2 = y := ⟨_, rfl⟩
  rw [hx5] at h5c
  rw [hv5] at bd5 ⊢
  have c5 := h5c.get (o := 7) (by omega)
  have f5 := h5c.m.froz 7
  clear hB5 hm5 hn5 h4
  go_upto_region 9 with fail
  refine wp_world' (fun wx => RdS s b mb (D4.setIfInBounds 7 (.int .i64 v5)) x5 w wx) (h5c.cell 7 _ rfl) ?_
  rintro w5 h5
  obtain ⟨D5, hD5⟩ : ∃ X, D4.setIfInBounds 7 (.int .i64 v5) = X := ⟨_, rfl⟩
  rw [hD5] at h5
  clear c5 f5 h5c
  have hn6 := Lib.hid (small_calls s x5.1 b 2 x5.2 w5 h5.rd h5.inn (by omega) hs)
  have bd6 := rdNum_bd s x5.1 x5.2 2
  go_wp2_with fail
  refine hn6.out.mono ?_
  rintro e w6c ⟨rfl, hB6, hm6⟩
  have h6c := h5.call hB6 hm6
  obtain ⟨x6, hx6⟩ : ∃ y, stp s x5 2 = y := ⟨_, rfl⟩
  obtain ⟨v6, hv6⟩ : ∃ y, rdNum s x5.1 x5.2 2 = y := ⟨_, rfl⟩
  rw [hx6] at h6c
  rw [hv6] at bd6 ⊢
  have c6 := h6c.get (o := 8) (by omega)
  have f6 := h6c.m.froz 8
  clear hB6 hm6 hn6 h5
  go_upto_region 10 with fail
  refine wp_world' (fun wx => RdS s b mb (D5.setIfInBounds 8 (.int .i64 v6)) x6 w wx) (h6c.cell 8 _ rfl) ?_
  rintro w6 h6
  obtain ⟨D6, hD6⟩ : ∃ X, D5.setIfInBounds 8 (.int .i64 v6) = X := ⟨_, rfl⟩
  rw [hD6] at h6
  clear c6 f6 h6c
  have hn7 := Lib.hid (small_calls s x6.1 b 4 x6.2 w6 h6.rd h6.inn (by omega) hs)
  have bd7 := rdNum_bd s x6.1 x6.2 4
  go_wp2_with fail
  refine hn7.out.mono ?_
  rintro e w7c ⟨rfl, hB7, hm7⟩
  have h7c := h6.call hB7 hm7
  obtain ⟨x7, hx7⟩ : ∃ y, stp s x6 4 = y := ⟨_, rfl⟩
  obtain ⟨v7, hv7⟩ : ∃ y, rdNum s x6.1 x6.2 4 = y := ⟨_, rfl⟩
  rw [hx7] at h7c
  rw [hv7] at bd7 ⊢
  have c7 := h7c.get (o := 9) (by omega)
  have f7 := h7c.m.froz 9
  clear hB7 hm7 hn7 h6
  go_upto_region 11 with fail
  refine wp_world' (fun wx => RdS s b mb (D6.setIfInBounds 9 (.int .i64 v7)) x7 w wx) (h7c.cell 9 _ rfl) ?_
  rintro w7 h7
  obtain ⟨D7, hD7⟩ : ∃ X, D6.setIfInBounds 9 (.int .i64 v7) = X := ⟨_, rfl⟩
  rw [hD7] at h7
  clear c7 f7 h7c
  have hn8 := Lib.hid (small_calls s x7.1 b 4 x7.2 w7 h7.rd h7.inn (by omega) hs)
  have bd8 := rdNum_bd s x7.1 x7.2 4
  go_wp2_with fail
  refine hn8.out.mono ?_
  rintro e w8c ⟨rfl, hB8, hm8⟩
  have h8c := h7.call hB8 hm8
  obtain ⟨x8, hx8⟩ : ∃ y, stp s x7 4 = y := ⟨_, rfl⟩
  obtain ⟨v8, hv8⟩ : ∃ y, rdNum s x7.1 x7.2 4 = y := ⟨_, rfl⟩
  rw [hx8] at h8c
  rw [hv8] at bd8 ⊢
  have c8 := h8c.get (o := 10) (by omega)
  have f8 := h8c.m.froz 10
  clear hB8 hm8 hn8 h7
  go_upto_region 12 with fail
  refine wp_world' (fun wx => RdS s b mb (D7.setIfInBounds 10 (.int .i64 v8)) x8 w wx) (h8c.cell 10 _ rfl) ?_
  rintro w8 h8
  obtain ⟨D8, hD8⟩ : ∃ X, D7.setIfInBounds 10 (.int .i64 v8) = X := ⟨_, rfl⟩
  rw [hD8] at h8
  clear c8 f8 h8c
  have hn9 := Lib.hid (small_calls s x8.1 b 4 x8.2 w8 h8.rd h8.inn (by omega) hs)
  have bd9 := rdNum_bd s x8.1 x8.2 4
  go_wp2_with fail
  refine hn9.out.mono ?_
  rintro e w9c ⟨rfl, hB9, hm9⟩
  have h9c := h8.call hB9 hm9
  obtain ⟨x9, hx9⟩ : ∃ y, stp s x8 4 = y := ⟨_, rfl⟩
  obtain ⟨v9, hv9⟩ : ∃ y, rdNum s x8.1 x8.2 4 = y := ⟨_, rfl⟩
  rw [hx9] at h9c
  rw [hv9] at bd9 ⊢
  have c9 := h9c.get (o := 11) (by omega)
  have f9 := h9c.m.froz 11
  clear hB9 hm9 hn9 h8
  go_upto_region 13 with fail
  refine wp_world' (fun wx => RdS s b mb (D8.setIfInBounds 11 (.int .i64 v9)) x9 w wx) (h9c.cell 11 _ rfl) ?_
  rintro w9 h9
  obtain ⟨D9, hD9⟩ : ∃ X, D8.setIfInBounds 11 (.int .i64 v9) = X := ⟨_, rfl⟩
  rw [hD9] at h9
  clear c9 f9 h9c
  have hn10 := Lib.hid (small_calls s x9.1 b 4 x9.2 w9 h9.rd h9.inn (by omega) hs)
  have bd10 := rdNum_bd s x9.1 x9.2 4
  go_wp2_with fail
  refine hn10.out.mono ?_
  rintro e w10c ⟨rfl, hB10, hm10⟩
  have h10c := h9.call hB10 hm10
  obtain ⟨x10, hx10⟩ : ∃ y, stp s x9 4 = y := ⟨_, rfl⟩
  obtain ⟨v10, hv10⟩ : ∃ y, rdNum s x9.1 x9.2 4 = y := ⟨_, rfl⟩
  rw [hx10] at h10c
  rw [hv10] at bd10 ⊢
  have c10 := h10c.get (o := 12) (by omega)
  have f10 := h10c.m.froz 12
  clear hB10 hm10 hn10 h9
  go_upto_region 14 with fail
  refine wp_world' (fun wx => RdS s b mb (D9.setIfInBounds 12 (.int .i64 v10)) x10 w wx) (h10c.cell 12 _ rfl) ?_
  rintro w10 h10
  obtain ⟨D10, hD10⟩ : ∃ X, D9.setIfInBounds 12 (.int .i64 v10) = X := ⟨_, rfl⟩
  rw [hD10] at h10
  clear c10 f10 h10c
  have hn11 := Lib.hid (small_calls s x10.1 b 2 x10.2 w10 h10.rd h10.inn (by omega) hs)
  have bd11 := rdNum_bd s x10.1 x10.2 2
  go_wp2_with fail
  refine hn11.out.mono ?_
  rintro e w11c ⟨rfl, hB11, hm11⟩
  have h11c := h10.call hB11 hm11
  obtain ⟨x11, hx11⟩ : ∃ y, stp s x10 2 = y := ⟨_, rfl⟩
  obtain ⟨v11, hv11⟩ : ∃ y, rdNum s x10.1 x10.2 2 = y := ⟨_, rfl⟩
  rw [hx11] at h11c
  rw [hv11] at bd11 ⊢
  have c11 := h11c.get (o := 13) (by omega)
  have f11 := h11c.m.froz 13
  clear hB11 hm11 hn11 h10
  go_upto_region 15 with fail
  refine wp_world' (fun wx => RdS s b mb (D10.setIfInBounds 13 (.int .i64 v11)) x11 w wx) (h11c.cell 13 _ rfl) ?_
  rintro w11 h11
  obtain ⟨D11, hD11⟩ : ∃ X, D10.setIfInBounds 13 (.int .i64 v11) = X := ⟨_, rfl⟩
  rw [hD11] at h11
  clear c11 f11 h11c
  have hn12 := Lib.hid (small_calls s x11.1 b 2 x11.2 w11 h11.rd h11.inn (by omega) hs)
  have bd12 := rdNum_bd s x11.1 x11.2 2
  go_wp2_with fail
  refine hn12.out.mono ?_
  rintro e w12c ⟨rfl, hB12, hm12⟩
  have h12c := h11.call hB12 hm12
  obtain ⟨x12, hx12⟩ : ∃ y, stp s x11 2 = y := ⟨_, rfl⟩
  obtain ⟨v12, hv12⟩ : ∃ y, rdNum s x11.1 x11.2 2 = y := ⟨_, rfl⟩
  rw [hx12] at h12c
  rw [hv12] at bd12 ⊢
  have c12 := h12c.get (o := 14) (by omega)
  have f12 := h12c.m.froz 14
  clear hB12 hm12 hn12 h11
  go_upto_region 34 with fail
  refine wp_world' (fun wx => RdS s b mb (D11.setIfInBounds 14 (.int .i64 v12)) x12 w wx) (h12c.cell 14 _ rfl) ?_
  rintro w12 h12
  obtain ⟨D12, hD12⟩ : ∃ X, D11.setIfInBounds 14 (.int .i64 v12) = X := ⟨_, rfl⟩
  rw [hD12] at h12
  clear c12 f12 h12c
  have HZ := Lib.hid h12.z
  have hone : Hid (∀ v ∈ D12.toList, v.oneCell' = true) := Lib.hid h12.one
  have hsz := Lib.hid (msg_size D12 h12.sz)
  have hzs := Lib.hid (show zero53.size = D12.size by rw [h12.sz]; rfl)
  have hld := Lib.hid (run_load_row' (P := Try.prog) w12 mb 42 _ 42 _ h12.m Try.underlying42 rfl (msg_size _ h12.sz))
  go_wp2_with (first | (refine wpList_load_v rfl 42 _ rfl ⟨mb, 0, none⟩ rfl _ hld.out ?_) | (refine wpList_store_row2 rfl 42 _ _ rfl rfl w.heap.size rfl zero53 D12 42 HZ.out rfl (by exact hzs.out) hone.out hsz.out ?_; intro wz hBz hmz))
  (try simp only [Exit.inBlock, Exit.then])
  have hx : x12 = stps s (0, false) [1, 1, 4, 2, 2, 2, 2, 4, 4, 4, 4, 2, 2] := by rw [← hx12, ← hx11, ← hx10, ← hx9, ← hx8, ← hx7, ← hx6, ← hx5, ← hx4, ← hx3, ← hx2, ← hx1, ← hx0]; rfl
  refine bodyPost_ret (results_cell_row rfl _ _ w.heap.size _ _ _ _ rfl hBz Try.underlying42 rfl hsz.out) rfl ⟨D12, x12.1, x12.2, rfl, ⟨h12.sz, h12.one⟩, h12.rd.mod hmz (by omega), ⟨hmz.os.trans h12.mod.os, hmz.tape.trans h12.mod.tape, hmz.output.trans h12.mod.output, Nat.le_trans h12.mod.size hmz.size, fun k hk hs => (hmz.block k (Nat.lt_of_lt_of_le hk h12.mod.size) (by omega)).trans (h12.mod.block k hk hs)⟩, ?_, ?_⟩
  · intro hsh
    rw [hx]
    exact stps_no _ 0 (by omega) (by simpa [widS] using hsh)
  · intro hok
    have hok' : 34 ≤ s.size := by simpa [widS] using hok
    have y0 : x0 = (1, false) := by rw [← hx0, stp_ok (by omega)]
    have u0 : v0 = numAt s 0 1 := by rw [← hv0, num_ok (by omega)]
    have y1 : x1 = (2, false) := by rw [← hx1, y0, stp_ok (by omega)]
    have u1 : v1 = numAt s 1 1 := by rw [← hv1, y0]; exact num_ok (by omega)
    have y2 : x2 = (6, false) := by rw [← hx2, y1, stp_ok (by omega)]
    have u2 : v2 = numAt s 2 4 := by rw [← hv2, y1]; exact num_ok (by omega)
    have y3 : x3 = (8, false) := by rw [← hx3, y2, stp_ok (by omega)]
    have u3 : v3 = numAt s 6 2 := by rw [← hv3, y2]; exact num_ok (by omega)
    have y4 : x4 = (10, false) := by rw [← hx4, y3, stp_ok (by omega)]
    have u4 : v4 = numAt s 8 2 := by rw [← hv4, y3]; exact num_ok (by omega)
    have y5 : x5 = (12, false) := by rw [← hx5, y4, stp_ok (by omega)]
    have u5 : v5 = numAt s 10 2 := by rw [← hv5, y4]; exact num_ok (by omega)
    have y6 : x6 = (14, false) := by rw [← hx6, y5, stp_ok (by omega)]
    have u6 : v6 = numAt s 12 2 := by rw [← hv6, y5]; exact num_ok (by omega)
    have y7 : x7 = (18, false) := by rw [← hx7, y6, stp_ok (by omega)]
    have u7 : v7 = numAt s 14 4 := by rw [← hv7, y6]; exact num_ok (by omega)
    have y8 : x8 = (22, false) := by rw [← hx8, y7, stp_ok (by omega)]
    have u8 : v8 = numAt s 18 4 := by rw [← hv8, y7]; exact num_ok (by omega)
    have y9 : x9 = (26, false) := by rw [← hx9, y8, stp_ok (by omega)]
    have u9 : v9 = numAt s 22 4 := by rw [← hv9, y8]; exact num_ok (by omega)
    have y10 : x10 = (30, false) := by rw [← hx10, y9, stp_ok (by omega)]
    have u10 : v10 = numAt s 26 4 := by rw [← hv10, y9]; exact num_ok (by omega)
    have y11 : x11 = (32, false) := by rw [← hx11, y10, stp_ok (by omega)]
    have u11 : v11 = numAt s 30 2 := by rw [← hv11, y10]; exact num_ok (by omega)
    have y12 : x12 = (34, false) := by rw [← hx12, y11, stp_ok (by omega)]
    have u12 : v12 = numAt s 32 2 := by rw [← hv12, y11]; exact num_ok (by omega)
    refine ⟨by rw [y12], by rw [y12]; rfl, none, ?_, marks_none (by omega)⟩
    have q0 : rqV s 6 false 0 = numAt s 6 2 := by
      show rdNum s (rqA s 6 false 0).1 (rqA s 6 false 0).2 2 = _
      rw [rqA_eq, stps_ok _ 6 (by show 6 + 0 ≤ _; omega)]
      exact num_ok (by show 6 + 0 + 2 ≤ _; omega)
    have q1 : rqV s 6 false 1 = numAt s 8 2 := by
      show rdNum s (rqA s 6 false 1).1 (rqA s 6 false 1).2 2 = _
      rw [rqA_eq, stps_ok _ 6 (by show 6 + 2 ≤ _; omega)]
      exact num_ok (by show 6 + 2 + 2 ≤ _; omega)
    have q2 : rqV s 6 false 2 = numAt s 10 2 := by
      show rdNum s (rqA s 6 false 2).1 (rqA s 6 false 2).2 2 = _
      rw [rqA_eq, stps_ok _ 6 (by show 6 + 4 ≤ _; omega)]
      exact num_ok (by show 6 + 4 + 2 ≤ _; omega)
    have q3 : rqV s 6 false 3 = numAt s 12 2 := by
      show rdNum s (rqA s 6 false 3).1 (rqA s 6 false 3).2 2 = _
      rw [rqA_eq, stps_ok _ 6 (by show 6 + 6 ≤ _; omega)]
      exact num_ok (by show 6 + 6 + 2 ≤ _; omega)
    have q4 : rqV s 6 false 4 = numAt s 14 4 := by
      show rdNum s (rqA s 6 false 4).1 (rqA s 6 false 4).2 4 = _
      rw [rqA_eq, stps_ok _ 6 (by show 6 + 8 ≤ _; omega)]
      exact num_ok (by show 6 + 8 + 4 ≤ _; omega)
    have q5 : rqV s 6 false 5 = numAt s 18 4 := by
      show rdNum s (rqA s 6 false 5).1 (rqA s 6 false 5).2 4 = _
      rw [rqA_eq, stps_ok _ 6 (by show 6 + 12 ≤ _; omega)]
      exact num_ok (by show 6 + 12 + 4 ≤ _; omega)
    have q6 : rqV s 6 false 6 = numAt s 22 4 := by
      show rdNum s (rqA s 6 false 6).1 (rqA s 6 false 6).2 4 = _
      rw [rqA_eq, stps_ok _ 6 (by show 6 + 16 ≤ _; omega)]
      exact num_ok (by show 6 + 16 + 4 ≤ _; omega)
    have q7 : rqV s 6 false 7 = numAt s 26 4 := by
      show rdNum s (rqA s 6 false 7).1 (rqA s 6 false 7).2 4 = _
      rw [rqA_eq, stps_ok _ 6 (by show 6 + 20 ≤ _; omega)]
      exact num_ok (by show 6 + 20 + 4 ≤ _; omega)
    have q8 : rqV s 6 false 8 = numAt s 30 2 := by
      show rdNum s (rqA s 6 false 8).1 (rqA s 6 false 8).2 2 = _
      rw [rqA_eq, stps_ok _ 6 (by show 6 + 24 ≤ _; omega)]
      exact num_ok (by show 6 + 24 + 2 ≤ _; omega)
    have q9 : rqV s 6 false 9 = numAt s 32 2 := by
      show rdNum s (rqA s 6 false 9).1 (rqA s 6 false 9).2 2 = _
      rw [rqA_eq, stps_ok _ 6 (by show 6 + 26 ≤ _; omega)]
      exact num_ok (by show 6 + 26 + 2 ≤ _; omega)
    have hr : MsgOf ((((((((((((((zero53.setIfInBounds 0 (.int .i64 1)).setIfInBounds 1 (.int .i64 (numAt s 0 1))).setIfInBounds 3 (.int .i64 (numAt s 1 1))).setIfInBounds 4 (.int .i64 (numAt s 2 4))).setIfInBounds 5 (.int .i64 (rqV s 6 false 0))).setIfInBounds 6 (.int .i64 (rqV s 6 false 1))).setIfInBounds 7 (.int .i64 (rqV s 6 false 2))).setIfInBounds 8 (.int .i64 (rqV s 6 false 3))).setIfInBounds 9 (.int .i64 (rqV s 6 false 4))).setIfInBounds 10 (.int .i64 (rqV s 6 false 5))).setIfInBounds 11 (.int .i64 (rqV s 6 false 6))).setIfInBounds 12 (.int .i64 (rqV s 6 false 7))).setIfInBounds 13 (.int .i64 (rqV s 6 false 8))).setIfInBounds 14 (.int .i64 (rqV s 6 false 9))) (decM 1 s none) := row1 (s := s) (bare_of 1) (by omega)
    rw [q0, q1, q2, q3, q4, q5, q6, q7, q8, q9] at hr
    rw [← hD12, ← hD11, ← hD10, ← hD9, ← hD8, ← hD7, ← hD6, ← hD5, ← hD4, ← hD3, ← hD2, ← hD1, ← hD0, u0, u1, u2, u3, u4, u5, u6, u7, u8, u9, u10, u11, u12]
    exact hr

set_option maxHeartbeats 4000000 in
set_option maxRecDepth 100000 in
theorem read2 (s : ByteArray) (b : Nat) (w : World) (hB : Blk w b #[.string s, .bool false] 89) (hs : s.size ≤ 140737488351232) :
    Calls Try.prog 36 #[.pointer (some ⟨b, 0, none⟩), .int .i64 2] w (ReadPost s b 2 w) := by
  have hbl := hB.lt
  have e0 : s.extract 0 s.size = s := ByteArray.extract_zero_size
  have hB0 : Blk w b #[.string (s.extract 0 s.size), .bool false] 89 := by rw [e0]; exact hB
  clear e0 hB
  go_enter Try.func36, Try.ntmps36
  go_upto_region 1 with fail
  refine wp_world' (fun wx => Blk wx w.heap.size zero53 42 ∧ Blk wx b #[.string (s.extract 0 s.size), .bool false] 89 ∧ Mod (fun k => k = b) w wx ∧ w.heap.size < wx.heap.size) ⟨Blk.new w _ _, hB0.alloc _, (Mod.refl _ w).alloc _, by simp⟩ ?_
  rintro wa ⟨hZ, hBa, hma, hlt⟩
  have hn0 := Lib.hid (small_calls s 0 b 1 false wa hBa (by omega) (by omega) hs)
  have hZ0 := Lib.hid hZ
  clear hB0 hBa hZ
  go_wp2_with fail
  refine hn0.out.mono ?_
  rintro e wb ⟨rfl, hB1, hm1⟩
  have hZ1 := hZ0.out.mod hm1 (by omega)
  have hmb := hma.trans hm1
  have hlb : w.heap.size < wb.heap.size := Nat.lt_of_lt_of_le hlt hm1.size
  obtain ⟨x0, hx0⟩ : ∃ y, stp s (0, false) 1 = y := ⟨_, rfl⟩
  obtain ⟨v0, hv0⟩ : ∃ y, rdNum s 0 false 1 = y := ⟨_, rfl⟩
  replace hB1 : Blk wb b #[.string (s.extract (stp s (0, false) 1).1 s.size), .bool (stp s (0, false) 1).2] 89 := hB1
  have hin : (stp s (0, false) 1).1 ≤ s.size := rdAt_le (by omega)
  rw [hx0] at hB1 hin
  rw [hv0]
  have hru := Lib.hid (run_two 2 v0)
  have hs0 := Lib.hid (show zero53.size = ((zero53.setIfInBounds 0 (.int .i64 2)).setIfInBounds 1 (.int .i64 v0)).size by simp)
  have hs1 := Lib.hid (two_one 2 v0)
  have hs2 := Lib.hid (msg_size ((zero53.setIfInBounds 0 (.int .i64 2)).setIfInBounds 1 (.int .i64 v0)) (by simp; rfl))
  obtain ⟨D0, hD0⟩ : ∃ X, (zero53.setIfInBounds 0 (.int .i64 2)).setIfInBounds 1 (.int .i64 v0) = X := ⟨_, rfl⟩
  rw [hD0] at hru hs0 hs1 hs2
  have HB1 := Lib.hid hB1
  have HZ1 := Lib.hid hZ1
  have HL := Lib.hid hlb
  clear hB1 hZ1 hn0 hZ0 hma hm1 hlt hlb
  go_upto_region 2 with (first | (refine wpList_build2_v rfl 42 0 1 _ _ rfl (.int .i64 2) (.int .i64 v0) rfl rfl (.agg D0) (hru.out _) ?_) | (refine wpList_store_new rfl 42 _ _ rfl rfl rfl _ D0 _ rfl (by exact hs0.out) hs1.out hs2.out ?_))
  refine wp_world' (fun wx => RdS s b wb.heap.size D0 x0 w wx) ⟨HB1.out.alloc _, Blk.new _ _ _, HZ1.out.alloc _, hmb.alloc _, hin, hs0.out.symm, hs1.out, hbl, HL.out⟩ ?_
  rintro w0 h0
  generalize wb.heap.size = mb at *
  clear HB1 HZ1 HL hru hs0 hs1 hs2 hmb hin
  have hn1 := Lib.hid (small_calls s x0.1 b 1 x0.2 w0 h0.rd h0.inn (by omega) hs)
  have bd1 := rdNum_bd s x0.1 x0.2 1
  go_wp2_with fail
  refine hn1.out.mono ?_
  rintro e w1c ⟨rfl, hB1, hm1⟩
  have h1c := h0.call hB1 hm1
  obtain ⟨x1, hx1⟩ : ∃ y, stp s x0 1 = y := ⟨_, rfl⟩
  obtain ⟨v1, hv1⟩ : ∃ y, rdNum s x0.1 x0.2 1 = y := ⟨_, rfl⟩
  rw [hx1] at h1c
  rw [hv1] at bd1 ⊢
  have c1 := h1c.get (o := 2) (by omega)
  have f1 := h1c.m.froz 2
  clear hB1 hm1 hn1 h0
  go_upto_region 18 with fail
  refine wp_world' (fun wx => RdS s b mb (D0.setIfInBounds 2 (.int .i64 v1)) x1 w wx) (h1c.cell 2 _ rfl) ?_
  rintro w1 h1
  obtain ⟨D1, hD1⟩ : ∃ X, D0.setIfInBounds 2 (.int .i64 v1) = X := ⟨_, rfl⟩
  rw [hD1] at h1
  clear c1 f1 h1c
  have hn2 := Lib.hid (digd_calls s x1.1 b x1.2 w1 h1.rd h1.inn hs)
  go_wp2_with fail
  refine hn2.out.mono ?_
  rintro e w2c ⟨rfl, hB2, hm2⟩
  have h2c := h1.calld hB2 hm2
  obtain ⟨x2, hx2⟩ : ∃ y, dgA s x1.1 x1.2 32 = y := ⟨_, rfl⟩
  rw [hx2] at h2c
  have hRs : (dgRow s x1.1 x1.2 zero32 0 32).size = 32 := by rw [dgRow_size]; rfl
  have hR1 := dgRow_one s x1.1 x1.2 32
  have hspl := dg_splice s x1.1 x1.2 D1 h2c.sz
  have hst := run_storeVar_part (P := Try.prog) w2c mb 15 37 D1 (dgRow s x1.1 x1.2 zero32 0 32) _ h2c.m (by rw [hRs, h2c.sz]; omega) hR1 (by rw [hRs]; kernel_rfl)
  have h2 := h2c.part hRs hR1
  rw [hspl] at hst h2
  have Hst := Lib.hid hst
  have H2 := Lib.hid h2
  clear hB2 hm2 hn2 h1 h2c hst h2 hRs hR1 hspl
  generalize dgRow s x1.1 x1.2 zero32 0 32 = R at Hst ⊢
  go_upto_region 34 with (refine wpList_stp rfl 37 _ _ rfl rfl _ rfl _ rfl Hst.out ?_)
  refine wp_world' (fun wx => RdS s b mb (dgRow s x1.1 x1.2 D1 15 32) x2 w wx) H2.out ?_
  rintro w2 h2
  obtain ⟨D2, hD2⟩ : ∃ X, dgRow s x1.1 x1.2 D1 15 32 = X := ⟨_, rfl⟩
  rw [hD2] at h2
  clear Hst H2
  have HZ := Lib.hid h2.z
  have hone : Hid (∀ v ∈ D2.toList, v.oneCell' = true) := Lib.hid h2.one
  have hsz := Lib.hid (msg_size D2 h2.sz)
  have hzs := Lib.hid (show zero53.size = D2.size by rw [h2.sz]; rfl)
  have hld := Lib.hid (run_load_row' (P := Try.prog) w2 mb 42 _ 42 _ h2.m Try.underlying42 rfl (msg_size _ h2.sz))
  go_wp2_with (first | (refine wpList_load_v rfl 42 _ rfl ⟨mb, 0, none⟩ rfl _ hld.out ?_) | (refine wpList_store_row2 rfl 42 _ _ rfl rfl w.heap.size rfl zero53 D2 42 HZ.out rfl (by exact hzs.out) hone.out hsz.out ?_; intro wz hBz hmz))
  (try simp only [Exit.inBlock, Exit.then])
  have hx : x2 = stps s (0, false) (1 :: 1 :: List.replicate 32 1) := by rw [← hx2, dgA_eq]; show stps s x1 _ = _; rw [← hx1, ← hx0]; rfl
  refine bodyPost_ret (results_cell_row rfl _ _ w.heap.size _ _ _ _ rfl hBz Try.underlying42 rfl hsz.out) rfl ⟨D2, x2.1, x2.2, rfl, ⟨h2.sz, h2.one⟩, h2.rd.mod hmz (by omega), ⟨hmz.os.trans h2.mod.os, hmz.tape.trans h2.mod.tape, hmz.output.trans h2.mod.output, Nat.le_trans h2.mod.size hmz.size, fun k hk hs => (hmz.block k (Nat.lt_of_lt_of_le hk h2.mod.size) (by omega)).trans (h2.mod.block k hk hs)⟩, ?_, ?_⟩
  · intro hsh
    rw [hx]
    exact stps_no _ 0 (by omega) (by simpa [widS] using hsh)
  · intro hok
    have hok' : 34 ≤ s.size := by simpa [widS] using hok
    have y0 : x0 = (1, false) := by rw [← hx0, stp_ok (by omega)]
    have u0 : v0 = numAt s 0 1 := by rw [← hv0, num_ok (by omega)]
    have y1 : x1 = (2, false) := by rw [← hx1, y0, stp_ok (by omega)]
    have u1 : v1 = numAt s 1 1 := by rw [← hv1, y0]; exact num_ok (by omega)
    have y2 : x2 = (34, false) := by rw [hx, stps_ok _ 0 (by show 0 + 34 ≤ _; omega)]; rfl
    refine ⟨by rw [y2], by rw [y2]; rfl, none, ?_, marks_none (by omega)⟩
    have hr := row2 (s := s) (bare_of 2) (by omega)
    rw [← hD2, y1, ← hD1, ← hD0, u0, u1]
    exact hr
end Go.Proofs.Ytcipdimnbleljaa
