/-
  The document's side of layer 18: Turned, whatever the number.
-/
import Derived.Test.YtcipdimnbleljaaRfJ
namespace Go.Proofs.Ytcipdimnbleljaa
open Go.RowKit
open Extern.Stop (cell)

theorem wpList_bs1_v {P : Program} {ops : Array Oper} {rest : List Oper} {o : Oper} {a : Act} {w : World} {Q : Exit → Act → World → Prop} (hgd : o.guard = none) (t : TypeId) (n i : Nat) (x : Operand) (ho : o.op = .buildSlice t n #[(i, x)])
    (vx : Value) (hx : a.eval x = vx) (v : Value) (w' : World) (hrun : (Instr.buildSlice t n #[(i, vx)]).run P w = .ok v w') (h : wpList P ops Q rest (a.put o.dst v) w') : wpList P ops Q (o :: rest) a w :=
  wpList_bsd hgd hrun ho (by simp only [List.map_toArray, List.map_cons, List.map_nil, hx]) h
theorem bs_next {b : Nat} {w w' : World} {r : Option Nat} (h : b ≤ w.heap.size) (hg : w.grownBy w' r) (o : Obj) : b ≤ (w'.alloc o).heap.size := by
  have := hg.size
  simp
  omega
theorem low_next {w w' : World} (h : Below w.heap.size w w') (o : Obj) : Below w.heap.size w (w'.alloc o) := h.alloc h.size o
theorem wpList_st38 {ops : Array Oper} {rest : List Oper} {o : Oper} {a : Act} {w : World} {Q : Exit → Act → World → Prop} (hgd : o.guard = none) (x y : Operand) (ho : o.op = .store 38 x y) (hdst : o.dst = none) (p : Addr) (hx : a.eval x = .pointer (some p))
    {q : Option Addr} {n c : Nat} (hy : a.eval y = .slice q n c) (u : Value) (hc : w.cell? p = some u) (hf : w.frozen? p = false) (h : wpList Try.prog ops Q rest a (w.setCell p (.slice q n c))) : wpList Try.prog ops Q (o :: rest) a w :=
  wpList_plain hgd fun K_ hK => by
    unfold Oper.wp
    rw [run_store38 ho hx hy hc hf]
    show K_ (a.put o.dst undef) _
    rw [hdst]
    exact hK _ _ h
theorem mks_mod {w w' : World} {p : Option Addr} {ms : List (Int × List UInt8)} {S : Nat → Prop} (h : MksAt w p ms) (hm : Mod S w w') (hs : ∀ a, p = some a → ¬ S a.block) : MksAt w' p ms :=
  ⟨h.nil, h.len, h.big, fun a ha j v hj => hm.cell_of (by rw [show (a.add j).block = a.block by unfold Addr.add; split <;> rfl]; exact hs a ha) (h.cells a ha j v hj)⟩
theorem wpList_self' {P : Program} {ops : Array Oper} {l : List Oper} {a : Act} {w : World} {Q : Exit → Act → World → Prop} (h : wpList P ops Q l a w) : wpList P ops Q l a w := h

set_option maxHeartbeats 4000000 in
set_option maxRecDepth 100000 in
theorem turned10 (C : Array Value) (m : MV) (w : World) (u n : Int) (hM : MsgOf C m) (hA : MarksAt w m) (hR : MsgRg m) (hlen : m.ms.length ≤ 100) (hu : 0 ≤ u ∧ u < 256) (hn : I64 n) (ht : u % 16 = 10) :
    Calls Try.prog 12 #[.agg C, .int .u8 u, .int .i64 n] w (TurnPost w) := by
  have hC := hM.size
  have hrem : u.tmod 16 = 10 := by rw [Int.tmod_eq_emod_of_nonneg hu.1]; exact ht
  clear ht
  have hM47 := Lib.hid hM.h47
  have hln := Lib.hid (mkCells_length m.ms hA.len)
  have hon := Lib.hid (fun u hu => mkCells_one m.ms u hu)
  have hd9 : Hid (∀ x ∈ m.ms ++ [(n, dg0)], x.2.length = 32) := Lib.hid (by
    intro x hx
    rcases List.mem_append.1 hx with h | h
    · exact hA.len x h
    · rw [List.mem_singleton] at h; subst h; rfl)
  have hl9 : Hid ((m.ms ++ [(n, dg0)]).length ≤ 9223372036854775807) := Lib.hid (by simp; omega)
  go_enter Try.func12, Try.ntmps12
  go_upto_region 1 with fail
  refine wp_world' (fun wx => Blk wx w.heap.size C 42 ∧ Blk wx (w.heap.size + 1) zero53 42 ∧ wx.heap.size = w.heap.size + 2 ∧ Below w.heap.size w wx) ⟨(Blk.new w C _).alloc _, Blk.new' w _ _ _, by simp, ((Below.refl _ _).alloc (Nat.le_refl _) _).alloc (by simp) _⟩ ?_
  rintro w0 ⟨hB, hZ, hz, hb⟩
  have own0 := Lib.hid (own_nil (w := w0.alloc (.cells #[] 65)) (w.heap.size + 2) w0.heap.size (by omega) (Blk.new w0 #[] 65))
  have hbs := Lib.hid (show w.heap.size + 2 ≤ (w0.alloc (.cells #[] 65)).heap.size by simp; omega)
  have hB0 := Lib.hid (hB.alloc (.cells #[] 65))
  have hZ0 := Lib.hid (hZ.alloc (.cells #[] 65))
  have hL0 := Lib.hid (hb.alloc hb.size (.cells #[] 65))
  have hA0 := Lib.hid (marks_below hA hL0.out)
  have c47 := hB0.out.cell hM.h47
  clear hz hB hZ hb
  go_upto_region 24 with fail
  cases hp : m.p with
  | some a =>
    rw [hp] at c47
    have hcl := Lib.hid (fun j u hj => hA0.out.cells a hp j u hj)
    refine wp_region_list ?_
    simp only []
    refine wpList_bsd rfl (rsl_none _) rfl (by simp only [List.map_toArray, List.map_nil]) ?_
    (try simp only [Act.put, List.setIfInBounds_toArray, List.set_cons_succ, List.set_cons_zero])
    refine wpList_v rfl _ (run_fld 7 47 rfl rfl (fun w => by kernel_rfl)) ?_
    (try simp only [Act.put, List.setIfInBounds_toArray, List.set_cons_succ, List.set_cons_zero])
    refine wpList_v rfl _ (run_load1 rfl rfl (run_slc c47)) ?_
    (try simp only [Act.put, List.setIfInBounds_toArray, List.set_cons_succ, List.set_cons_zero])
    refine wpList_appMs rfl _ _ rfl (w.heap.size + 2) hbs.out _ 0 [] rfl own0.out (by omega) a m.ms.length m.cap (mkCells m.ms) rfl hln.out (by omega) hcl.out hon.out ?_; intro v1 w2 hown1 hg1; have own1 := Lib.hid (own_below hown1 (new_below w2 (.cells (markRow (n, dg0)).toArray 65))); have nb := Lib.hid (Blk.new w2 (markRow (n, dg0)).toArray 65); have hbs2 := Lib.hid (bs_next hbs.out hg1 (.cells (markRow (n, dg0)).toArray 65)); have hB2 := Lib.hid ((grown_blk hB0.out own0.out (by omega) hg1).alloc (.cells (markRow (n, dg0)).toArray 65)); have hZ2 := Lib.hid ((grown_blk hZ0.out own0.out (by omega) hg1).alloc (.cells (markRow (n, dg0)).toArray 65)); have hL2 := Lib.hid (low_next (grown_low hL0.out (by omega) (Nat.le_refl _) own0.out hg1) (.cells (markRow (n, dg0)).toArray 65))
    (try simp only [Act.put, List.setIfInBounds_toArray, List.set_cons_succ, List.set_cons_zero])
    refine wpList_v rfl _ (run_mov rfl rfl) ?_
    (try simp only [Act.put, List.setIfInBounds_toArray, List.set_cons_succ, List.set_cons_zero])
    refine wpList_build1_v rfl 65 0 _ rfl (.int .i64 n) rfl (.agg (markRow (n, dg0)).toArray) (rmk_one n _) ?_
    (try simp only [Act.put, List.setIfInBounds_toArray, List.set_cons_succ, List.set_cons_zero])
    refine wpList_bs1_v rfl 38 1 0 _ rfl (.agg (markRow (n, dg0)).toArray) rfl _ _ (rsl_one n _) ?_
    (try simp only [Act.put, List.setIfInBounds_toArray, List.set_cons_succ, List.set_cons_zero])
    refine wpList_appMs rfl _ _ rfl (w.heap.size + 2) hbs2.out _ _ _ rfl own1.out (by omega) ⟨_, 0, none⟩ 1 1 (markRow (n, dg0)) rfl (mrow_len n) (by omega) (row_cells nb.out) (mrow_one n) ?_; intro v2 w3 hown2 hg2; obtain ⟨p2, c2, rfl, hks, hbl⟩ := mks_of_own (ms := m.ms ++ [(n, dg0)]) (by have := hown2; rwa [List.nil_append, show mkCells m.ms ++ markRow (n, dg0) = mkCells (m.ms ++ [(n, dg0)]) by rw [mkCells_append]; simp [mkCells]] at this) hd9.out hl9.out; have hks2 := Lib.hid hks; replace hbl := Lib.hid hbl; have hB3 := grown_blk hB2.out own1.out (by omega) hg2; have hZ3 := Lib.hid (grown_blk hZ2.out own1.out (by omega) hg2); have hL3 := Lib.hid (grown_low hL2.out (by omega) (Nat.le_refl _) own1.out hg2); have c47' := hB3.cell hM47.out; have f47' := hB3.froz 47; have HB3 := Lib.hid hB3; clear hown1 hown2 hg1 hg2 hks hB3
    (try simp only [Act.put, List.setIfInBounds_toArray, List.set_cons_succ, List.set_cons_zero])
    refine wpList_v rfl _ (run_fld 7 47 rfl rfl (fun w => by kernel_rfl)) ?_
    (try simp only [Act.put, List.setIfInBounds_toArray, List.set_cons_succ, List.set_cons_zero])
    refine wpList_st38 rfl _ _ rfl rfl _ rfl rfl _ c47' f47' ?_
    (try simp only [Act.put, List.setIfInBounds_toArray, List.set_cons_succ, List.set_cons_zero])
    simp only [wpList]
    go_upto_region 33 with fail
    have hof := set_ms hM (m.ms ++ [(n, dg0)]) p2 c2
    refine wp_world' (fun wx => Blk wx w.heap.size (C.setIfInBounds 47 (.slice p2 (m.ms ++ [(n, dg0)]).length c2)) 42 ∧ Blk wx (w.heap.size + 1) zero53 42 ∧ Below w.heap.size w wx ∧ MksAt wx p2 (m.ms ++ [(n, dg0)])) ⟨HB3.out.set 47 _, hZ3.out.other (by show w.heap.size + 1 ≠ w.heap.size; omega) _, hL3.out.setCell (Nat.le_refl _) _, ?_⟩ ?_
    · exact mks_mod hks2.out ((Mod.refl (fun x => x = w.heap.size) _).setCell (fun _ => rfl) _) (fun a ha e => by have := hbl.out a ha; omega)
    rintro w4 ⟨hB4, hZ4, hL4, hk4⟩
    have hms2 : ∀ x ∈ m.ms ++ [(n, dg0)], I64 x.1 := fun x hx => by
      rcases List.mem_append.1 hx with h | h
      · exact hR.ms x h
      · rw [List.mem_singleton] at h; subst h; exact hn
    have HZ := Lib.hid hZ4
    have hone := Lib.hid (msg_one hof)
    have hsz := Lib.hid (msg_size _ hof.size)
    have hzs := Lib.hid (show zero53.size = (C.setIfInBounds 47 (.slice p2 (m.ms ++ [(n, dg0)]).length c2)).size from hof.size.symm)
    have hld := Lib.hid (run_load_row' (P := Try.prog) w4 w.heap.size 42 _ 42 _ hB4 Try.underlying42 rfl (msg_size _ hof.size))
    have Hof := Lib.hid hof
    have hbl4 := hbl.out
    clear hof hB4 hZ4
    generalize C.setIfInBounds 47 (.slice p2 (m.ms ++ [(n, dg0)]).length c2) = D at *
    go_wp2_with (first | (refine wpList_load_v rfl 42 _ rfl ⟨w.heap.size, 0, none⟩ rfl _ hld.out ?_) | (refine wpList_store_row2 rfl 42 _ _ rfl rfl (w.heap.size + 1) rfl zero53 D 42 HZ.out rfl (by exact hzs.out) hone.out hsz.out ?_; intro wz hBz hmz))
    (try simp only [Exit.inBlock, Exit.then])
    have hlow := hL4.trans (hmz.below hL4.size (fun _ h => by rw [h]; omega))
    have hk5 := mks_mod hk4 hmz (fun a ha e => by have := hbl4 a ha; omega)
    exact bodyPost_ret (results_cell_row rfl _ _ (w.heap.size + 1) _ _ _ _ rfl hBz Try.underlying42 rfl hsz.out) rfl ⟨D, _, rfl, Hof.out, ⟨hk5.nil, hk5.len, hk5.big, hk5.cells⟩, ⟨hR.kind, hR.round, hR.carrier, hR.req, hR.reserve, hR.rq, hms2, hR.bid, hR.nonce, hR.state, hR.winner, hR.price⟩, hlow⟩
  | none =>
    have hnil := hA.nil hp
    have hz0 : m.ms.length = 0 := by rw [hnil]; rfl
    rw [hp, hz0] at c47
    have W1 := w0.alloc (.cells #[] 65)
    have own1 := Lib.hid (own_below own0.out (new_below (w0.alloc (.cells #[] 65)) (.cells (markRow (n, dg0)).toArray 65)))
    have nb := Lib.hid (Blk.new (w0.alloc (.cells #[] 65)) (markRow (n, dg0)).toArray 65)
    have hbs2 := Lib.hid (show w.heap.size + 2 ≤ ((w0.alloc (.cells #[] 65)).alloc (.cells (markRow (n, dg0)).toArray 65)).heap.size from by have := hbs.out; simp at *; omega)
    have hB2 := Lib.hid (hB0.out.alloc (.cells (markRow (n, dg0)).toArray 65))
    have hZ2 := Lib.hid (hZ0.out.alloc (.cells (markRow (n, dg0)).toArray 65))
    have hL2 := Lib.hid (low_next hL0.out (.cells (markRow (n, dg0)).toArray 65))
    refine wp_region_list ?_
    simp only []
    refine wpList_bsd rfl (rsl_none _) rfl (by simp only [List.map_toArray, List.map_nil]) ?_
    (try simp only [Act.put, List.setIfInBounds_toArray, List.set_cons_succ, List.set_cons_zero])
    refine wpList_v rfl _ (run_fld 7 47 rfl rfl (fun w => by kernel_rfl)) ?_
    (try simp only [Act.put, List.setIfInBounds_toArray, List.set_cons_succ, List.set_cons_zero])
    refine wpList_v rfl _ (run_load1 rfl rfl (run_slc c47)) ?_
    (try simp only [Act.put, List.setIfInBounds_toArray, List.set_cons_succ, List.set_cons_zero])
    refine wpList_v rfl _ (run_appN w0.heap.size m.cap rfl rfl rfl) ?_
    (try simp only [Act.put, List.setIfInBounds_toArray, List.set_cons_succ, List.set_cons_zero])
    refine wpList_v rfl _ (run_mov rfl rfl) ?_
    (try simp only [Act.put, List.setIfInBounds_toArray, List.set_cons_succ, List.set_cons_zero])
    refine wpList_build1_v rfl 65 0 _ rfl (.int .i64 n) rfl (.agg (markRow (n, dg0)).toArray) (rmk_one n _) ?_
    (try simp only [Act.put, List.setIfInBounds_toArray, List.set_cons_succ, List.set_cons_zero])
    refine wpList_bs1_v rfl 38 1 0 _ rfl (.agg (markRow (n, dg0)).toArray) rfl _ _ (rsl_one n _) ?_
    (try simp only [Act.put, List.setIfInBounds_toArray, List.set_cons_succ, List.set_cons_zero])
    refine wpList_appMs rfl _ _ rfl (w.heap.size + 2) hbs2.out _ _ _ rfl own1.out (by omega) ⟨_, 0, none⟩ 1 1 (markRow (n, dg0)) rfl (mrow_len n) (by omega) (row_cells nb.out) (mrow_one n) ?_; intro v2 w3 hown2 hg2; obtain ⟨p2, c2, rfl, hks, hbl⟩ := mks_of_own (ms := m.ms ++ [(n, dg0)]) (by have := hown2; rwa [show ([] : List Value) ++ markRow (n, dg0) = mkCells (m.ms ++ [(n, dg0)]) by rw [hnil]; simp [mkCells]] at this) hd9.out hl9.out; have hks2 := Lib.hid hks; replace hbl := Lib.hid hbl; have hB3 := grown_blk hB2.out own1.out (by omega) hg2; have hZ3 := Lib.hid (grown_blk hZ2.out own1.out (by omega) hg2); have hL3 := Lib.hid (grown_low hL2.out (by omega) (Nat.le_refl _) own1.out hg2); have c47' := hB3.cell hM47.out; have f47' := hB3.froz 47; have HB3 := Lib.hid hB3; clear hown2 hg2 hks hB3
    (try simp only [Act.put, List.setIfInBounds_toArray, List.set_cons_succ, List.set_cons_zero])
    refine wpList_v rfl _ (run_fld 7 47 rfl rfl (fun w => by kernel_rfl)) ?_
    (try simp only [Act.put, List.setIfInBounds_toArray, List.set_cons_succ, List.set_cons_zero])
    refine wpList_st38 rfl _ _ rfl rfl _ rfl rfl _ c47' f47' ?_
    (try simp only [Act.put, List.setIfInBounds_toArray, List.set_cons_succ, List.set_cons_zero])
    simp only [wpList]
    go_upto_region 33 with fail
    have hof := set_ms hM (m.ms ++ [(n, dg0)]) p2 c2
    refine wp_world' (fun wx => Blk wx w.heap.size (C.setIfInBounds 47 (.slice p2 (m.ms ++ [(n, dg0)]).length c2)) 42 ∧ Blk wx (w.heap.size + 1) zero53 42 ∧ Below w.heap.size w wx ∧ MksAt wx p2 (m.ms ++ [(n, dg0)])) ⟨HB3.out.set 47 _, hZ3.out.other (by show w.heap.size + 1 ≠ w.heap.size; omega) _, hL3.out.setCell (Nat.le_refl _) _, ?_⟩ ?_
    · exact mks_mod hks2.out ((Mod.refl (fun x => x = w.heap.size) _).setCell (fun _ => rfl) _) (fun a ha e => by have := hbl.out a ha; omega)
    rintro w4 ⟨hB4, hZ4, hL4, hk4⟩
    have hms2 : ∀ x ∈ m.ms ++ [(n, dg0)], I64 x.1 := fun x hx => by
      rcases List.mem_append.1 hx with h | h
      · exact hR.ms x h
      · rw [List.mem_singleton] at h; subst h; exact hn
    have HZ := Lib.hid hZ4
    have hone := Lib.hid (msg_one hof)
    have hsz := Lib.hid (msg_size _ hof.size)
    have hzs := Lib.hid (show zero53.size = (C.setIfInBounds 47 (.slice p2 (m.ms ++ [(n, dg0)]).length c2)).size from hof.size.symm)
    have hld := Lib.hid (run_load_row' (P := Try.prog) w4 w.heap.size 42 _ 42 _ hB4 Try.underlying42 rfl (msg_size _ hof.size))
    have Hof := Lib.hid hof
    have hbl4 := hbl.out
    clear hof hB4 hZ4
    generalize C.setIfInBounds 47 (.slice p2 (m.ms ++ [(n, dg0)]).length c2) = D at *
    go_wp2_with (first | (refine wpList_load_v rfl 42 _ rfl ⟨w.heap.size, 0, none⟩ rfl _ hld.out ?_) | (refine wpList_store_row2 rfl 42 _ _ rfl rfl (w.heap.size + 1) rfl zero53 D 42 HZ.out rfl (by exact hzs.out) hone.out hsz.out ?_; intro wz hBz hmz))
    (try simp only [Exit.inBlock, Exit.then])
    have hlow := hL4.trans (hmz.below hL4.size (fun _ h => by rw [h]; omega))
    have hk5 := mks_mod hk4 hmz (fun a ha e => by have := hbl4 a ha; omega)
    exact bodyPost_ret (results_cell_row rfl _ _ (w.heap.size + 1) _ _ _ _ rfl hBz Try.underlying42 rfl hsz.out) rfl ⟨D, _, rfl, Hof.out, ⟨hk5.nil, hk5.len, hk5.big, hk5.cells⟩, ⟨hR.kind, hR.round, hR.carrier, hR.req, hR.reserve, hR.rq, hms2, hR.bid, hR.nonce, hR.state, hR.winner, hR.price⟩, hlow⟩

theorem turned_calls (C : Array Value) (m : MV) (w : World) (u n : Int) (hM : MsgOf C m) (hA : MarksAt w m) (hR : MsgRg m) (hlen : m.ms.length ≤ 100) (hu : 0 ≤ u ∧ u < 256) (hn : I64 n) :
    Calls Try.prog 12 #[.agg C, .int .u8 u, .int .i64 n] w (TurnPost w) := by
  have h : u % 16 = 0 ∨ u % 16 = 1 ∨ u % 16 = 2 ∨ u % 16 = 3 ∨ u % 16 = 4 ∨ u % 16 = 5 ∨ u % 16 = 6 ∨ u % 16 = 7 ∨ u % 16 = 8 ∨ u % 16 = 9 ∨ u % 16 = 10 ∨ u % 16 = 11 ∨ u % 16 = 12 ∨ u % 16 = 13 ∨ u % 16 = 14 ∨ u % 16 = 15 := by omega
  rcases h with h | h | h | h | h | h | h | h | h | h | h | h | h | h | h | h
  · exact turned0 C m w u n hM hA hR hu hn h
  · exact turned1 C m w u n hM hA hR hu hn h
  · exact turned2 C m w u n hM hA hR hu hn h
  · exact turned3 C m w u n hM hA hR hu hn h
  · exact turned4 C m w u n hM hA hR hu hn h
  · exact turned5 C m w u n hM hA hR hu hn h
  · exact turned6 C m w u n hM hA hR hu hn h
  · exact turned7 C m w u n hM hA hR hu hn h
  · exact turned8 C m w u n hM hA hR hu hn h
  · exact turned9 C m w u n hM hA hR hu hn h
  · exact turned10 C m w u n hM hA hR hlen hu hn h
  · exact turned11 C m w u n hM hA hR hu hn h
  · exact turned12 C m w u n hM hA hR hu hn h
  · exact turned13 C m w u n hM hA hR hu hn h
  · exact turned14 C m w u n hM hA hR hu hn h
  · exact turned15 C m w u n hM hA hR hu hn h
end Go.Proofs.Ytcipdimnbleljaa
