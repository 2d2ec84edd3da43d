/-
  The document's side of layer 18: read, of a call: the round that appends a mark.
  The document's side of layer 18: read, of a call.
-/
import Derived.Test.YtcipdimnbleljaaRfN
import Derived.Test.YtcipdimnbleljaaRove
import Derived.Test.YtcipdimnbleljaaDm3P
import Derived.Test.YtcipdimnbleljaaRfC
namespace Go.Proofs.Ytcipdimnbleljaa
open Go.RowKit
open Extern.Stop (cell)

def rdRowA (s : ByteArray) (x : Nat × Bool) : Array Value := #[.string (s.extract x.1 s.size), .bool x.2]
/-- the worlds of the round: d4: the digest is read; d6: the row of one mark is made; d7: it is appended; d9: the slice is stored -/
structure ClQ (s : ByteArray) (b mb : Nat) (M0 MR : Array Value) (xa xb : Nat × Bool) (v : Value) (n : Nat) (xs : List Value) (w : World) (x : Nat × Value) (d4 d6 d7 d9 : Bool) (w' : World) : Prop where
  rd : Blk w' b (rdRowA s (bif d4 then xb else xa)) 89
  m : Blk w' mb (M0.setIfInBounds 47 (bif d9 then x.2 else v)) 42
  z : Blk w' w.heap.size zero53 42
  mod : Mod (fun k => k = b) w w'
  own : d7 = false → w'.ownsRow (mb + 1) 65 33 v n xs
  own2 : d7 = true → w'.ownsRow (mb + 1) 65 33 x.2 (n + 1) (xs ++ MR.toList)
  row : d6 = true → d7 = false → Blk w' x.1 MR 65
  hb : b < w.heap.size
  hm : w.heap.size < mb
section
variable {s : ByteArray} {b mb : Nat} {M0 MR : Array Value} {xa xb : Nat × Bool} {v : Value} {n : Nat} {xs : List Value} {w w' w'' : World} {x : Nat × Value} {d4 d6 d7 d9 : Bool}
theorem own_mod {w w' : World} {base : Nat} {e : TypeId} {size n : Nat} {v : Value} {xs : List Value} {S : Nat → Prop} (h : w.ownsRow base e size v n xs) (hm : Mod S w w') (hs : ∀ g, base ≤ g → ¬ S g) : w'.ownsRow base e size v n xs := by
  obtain ⟨hl, h⟩ := h
  refine ⟨hl, ?_⟩
  rcases h with h | ⟨g, cap, cur, hv, hg, hB, hr⟩
  · exact .inl h
  · have hB' : Blk w g cur e := hB
    exact .inr ⟨g, cap, cur, hv, hg, hB'.mod hm (hs g hg), hr⟩
theorem ClQ.read (h : ClQ s b mb M0 MR xa xb v n xs w x false d6 d7 d9 w') (hB : Blk w'' b (rdRowA s xb) 89) (hm : Mod (fun k => k = b) w' w'') (hx : d6 = true → b ≠ x.1) : ClQ s b mb M0 MR xa xb v n xs w x true d6 d7 d9 w'' :=
  have h1 := h.hb
  have h2 := h.hm
  ⟨hB, h.m.mod hm (by omega), h.z.mod hm (by omega), h.mod.trans hm, fun e => own_mod (h.own e) hm (fun g hg => by omega), fun e => own_mod (h.own2 e) hm (fun g hg => by omega), fun e e' => (h.row e e').mod hm (fun g => hx e g.symm), h.hb, h.hm⟩
theorem ClQ.made (h : ClQ s b mb M0 MR xa xb v n xs w x d4 false false d9 w') : ClQ s b mb M0 MR xa xb v n xs w (w'.heap.size, x.2) d4 true false d9 (w'.alloc (.cells MR 65)) :=
  ⟨h.rd.alloc _, h.m.alloc _, h.z.alloc _, h.mod.alloc _, fun e => own_below (h.own e) ((Below.refl _ _).alloc (Nat.le_refl _) _), (fun e => by cases e), fun _ _ => Blk.new _ _ _, h.hb, h.hm⟩
theorem ClQ.appended (h : ClQ s b mb M0 MR xa xb v n xs w x d4 true false false w') {v' : Value} (ho : w''.ownsRow (mb + 1) 65 33 v' (n + 1) (xs ++ MR.toList)) (hg : w'.grownBy w'' v.ownBlock) : ClQ s b mb M0 MR xa xb v n xs w (x.1, v') d4 true true false w'' :=
  have h1 := h.hb
  have h2 := h.hm
  have hlt := (h.own rfl).lt
  ⟨blk_grown h.rd hg (fun e => by have := hlt _ e.symm; omega), blk_grown h.m hg (fun e => by have := hlt _ e.symm; omega), blk_grown h.z hg (fun e => by have := hlt _ e.symm; omega),
    h.mod.grown hg (fun k hk hl => by have := hlt k hk; omega), (fun e => by cases e), fun _ => ho, (fun _ e => by cases e), h.hb, h.hm⟩
theorem ClQ.stored (h : ClQ s b mb M0 MR xa xb v n xs w x d4 d6 true false w') : ClQ s b mb M0 MR xa xb v n xs w x d4 d6 true true (w'.setCell ⟨mb, 47, none⟩ x.2) :=
  have h1 := h.hb
  have h2 := h.hm
  have hs : Blk (w'.setCell ⟨mb, 47, none⟩ x.2) mb (M0.setIfInBounds 47 x.2) 42 := by
    have := h.m.set 47 x.2
    have e : (M0.setIfInBounds 47 (bif false then x.2 else v)).setIfInBounds 47 x.2 = M0.setIfInBounds 47 x.2 := by
      apply Array.ext_getElem?
      intro i
      simp only [Array.getElem?_setIfInBounds, Array.size_setIfInBounds]
      split <;> rfl
    rwa [e] at this
  ⟨h.rd.other (by show b ≠ mb; omega) _, hs, h.z.other (by show w.heap.size ≠ mb; omega) _, h.mod.setCell (fun g => by simp at g; omega) _, (fun e => by cases e), fun e => ownsRow_setCell_below (h.own2 e) (a := ⟨mb, 47, none⟩) (by show mb < mb + 1; omega) _, (fun _ e => by cases e), h.hb, h.hm⟩
end
end Go.Proofs.Ytcipdimnbleljaa
namespace Go.Proofs.Ytcipdimnbleljaa
open Go.RowKit
open Extern.Stop (cell)
section
variable {ops : Array Oper}
theorem putAll_congrP (ps : List (Tmp × Value)) (t : Tmp) : ∀ (a b : Act), a.tmps.size = b.tmps.size → a.tmps[t]? = b.tmps[t]? → (putAll ps a).tmps[t]? = (putAll ps b).tmps[t]? := by
  induction ps with
  | nil => intro a b _ h; exact h
  | cons y r ih =>
    intro a b hz h
    refine ih (a.put (some y.1) y.2) (b.put (some y.1) y.2) (by simp [Act.put, hz]) ?_
    simp only [Act.put, Array.getElem?_setIfInBounds, hz, h]
/-- two rows of slots that are unlike in one slot alone -/
theorem agree_setP (k : Nat) (y : Tmp × Value) {L : List Nat} {ps qs : List (Tmp × Value)} {a : Act} (h : ps = qs.set k y) (hd : ((qs.map (·.1))[k]? == some y.1 && L.any fun c => dstOf ops c == some y.1) = true) : Agree ops L (putAll ps a) (putAll qs a) := by
  subst h
  rw [Bool.and_eq_true, beq_iff_eq, List.any_eq_true] at hd
  obtain ⟨hk, c, hc, hcd⟩ := hd
  intro t ht
  have hty : y.1 ≠ t := fun e => ht c hc (by rw [← e]; simpa using hcd)
  clear ht hc hcd
  induction qs generalizing k a with
  | nil => rfl
  | cons z r ih =>
    cases k with
    | zero =>
      simp only [List.map_cons, List.getElem?_cons_zero, Option.some.injEq] at hk
      show (putAll r (a.put (some y.1) y.2)).tmps[t]? = (putAll r (a.put (some z.1) z.2)).tmps[t]?
      refine putAll_congrP r t _ _ (by simp [Act.put]) ?_
      simp only [Act.put, Array.getElem?_setIfInBounds_ne hty]
      rw [Array.getElem?_setIfInBounds_ne (by rw [hk]; exact hty)]
    | succ k =>
      simp only [List.map_cons, List.getElem?_cons_succ] at hk
      exact ih k hk
end
theorem sk_vP {R : Value → World → Prop} {P : Program} {r : Result Next} {v : Value} {w : World} (h : r = .ok (.value v) w) (hC : R v w) : upon2 P R r := by rw [h]; exact hC

theorem set_msP {C : Array Value} {m : MV} (hM : MsgOf C m) (ms : List (Int × List UInt8)) (p : Option Addr) (c : Nat) : MsgOf (C.setIfInBounds 47 (.slice p ms.length c)) { m with ms := ms, p := p, cap := c } :=
  ⟨by rw [Array.size_setIfInBounds]; exact hM.size, (by rw [set_ne (by omega)]; exact hM.h0), (by rw [set_ne (by omega)]; exact hM.h1), (by rw [set_ne (by omega)]; exact hM.h2), (by rw [set_ne (by omega)]; exact hM.h3), (by rw [set_ne (by omega)]; exact hM.h4),
    (fun i hi => by rw [set_ne (by omega)]; exact hM.h5 i hi), (fun i hi => by rw [set_ne (by omega)]; exact hM.h15 i hi), hM.l15, (set_eq (by rw [hM.size]; omega)), (by rw [set_ne (by omega)]; exact hM.h48), (by rw [set_ne (by omega)]; exact hM.h49), (by rw [set_ne (by omega)]; exact hM.h50), (by rw [set_ne (by omega)]; exact hM.h51), (by rw [set_ne (by omega)]; exact hM.h52)⟩
theorem run_calldigd {ρ : Operand → Value} {o : Oper} {w : World} {x : Operand} {b : Nat} (ho : o.op = .call { callee := .value (.func 52), args := #[x], argTypes := #[91] }) (hx : ρ x = .pointer (some ⟨b, 0, none⟩))
    (hf : ρ (.func 52) = .func (.func 52) #[] #[]) : (execOp ρ o).run Try.prog w = .ok (.enter 52 #[.pointer (some ⟨b, 0, none⟩)]) w := by
  unfold execOp
  simp only [ho]
  go_simp
/-- the marks that a body tells, the first k of them -/
def msR (s : ByteArray) (k : Nat) : List (Int × List UInt8) := (List.range k).map fun j => (numAt s (2 + 33 * j) 1, byB s (3 + 33 * j) 32)
theorem msR_succ (s : ByteArray) (k : Nat) : msR s (k + 1) = msR s k ++ [(numAt s (2 + 33 * k) 1, byB s (3 + 33 * k) 32)] := by
  unfold msR
  rw [List.range_succ, List.map_append]
  rfl
theorem own_isQ {w : World} {b : Nat} {e : TypeId} {n : Nat} {v : Value} {k : Nat} {xs : List Value} (h : w.ownsRow b e n v k xs) : ∃ p m c, v = .slice p m c := by
  rcases h.2 with ⟨hv, _⟩ | ⟨g, cap, cur, hv, _⟩
  · exact ⟨_, _, _, hv⟩
  · exact ⟨_, _, _, hv⟩
theorem set_two {D : Array Value} {i : Nat} {u v : Value} : (D.setIfInBounds i u).setIfInBounds i v = D.setIfInBounds i v := by
  apply Array.ext_getElem?
  intro j
  simp only [Array.getElem?_setIfInBounds, Array.size_setIfInBounds]
  split <;> rfl
theorem mks_mod2 {w w' : World} {p : Option Addr} {ms : List (Int × List UInt8)} {S : Nat → Prop} (h : MksAt w p ms) (hm : Mod S w w') (hs : ∀ a, p = some a → ¬ S a.block) : MksAt w' p ms :=
  ⟨h.nil, h.len, h.big, fun a ha j v hj => hm.cell_of (by rw [show (a.add j).block = a.block by unfold Addr.add; split <;> rfl]; exact hs a ha) (h.cells a ha j v hj)⟩
theorem dg_cells {s : ByteArray} {a : Nat} (h : a + 32 ≤ s.size) : (dgRow s a false zero32 0 32).toList = (byB s a 32).map cell := by
  apply List.ext_getElem?
  intro i
  rw [Array.getElem?_toList, dgRow_get, List.getElem?_map]
  have hl := byB_length s a 32
  by_cases hi : i < 32
  · rw [if_pos ⟨by omega, by omega, by show i < 32; omega⟩, dgV_ok (n := 32) (by omega) (by omega), List.getElem?_eq_getElem (by omega)]
    have e := byB_getD s a 32 i hi
    rw [List.getD_eq_getElem?_getD, List.getElem?_eq_getElem (by omega)] at e
    simp only [Option.map_some]
    rw [show cell (byB s a 32)[i] = _ from e]
    simp
  · rw [if_neg (by omega), Array.getElem?_eq_none (by show 32 ≤ i; omega), List.getElem?_eq_none (by omega)]
    rfl
set_option maxRecDepth 100000 in
theorem inv_next {s : ByteArray} {k N : Nat} {x xc xd : Nat × Bool} {c : Int} {R : Array Value} {xs : List Value} (_ : x.2 = true → s.size < widS 3 s) (hg : x.2 = false → x.1 = 2 + 33 * k ∧ xs = mkCells (msR s k)) (hin : x.1 ≤ s.size) (hbx : x.2 = false)
    (hxc : stp s x 1 = xc) (hc : rdNum s x.1 x.2 1 = c) (hxd : dgA s xc.1 xc.2 32 = xd) (hR : dgRow s xc.1 xc.2 zero32 0 32 = R) (hlt : k < N) (hW : 2 ≤ s.size → widS 3 s = 2 + 33 * N) :
    (xd.2 = true → s.size < widS 3 s) ∧ (xd.2 = false → xd.1 = 2 + 33 * (k + 1) ∧ xs ++ (markA c R).toList = mkCells (msR s (k + 1))) := by
  obtain ⟨h1, h2⟩ := hg hbx
  have hx : x = (2 + 33 * k, false) := by rw [← h1, ← hbx]
  have hs2 : 2 ≤ s.size := by omega
  have hcons : ∀ (y : Nat × Bool) (l : List Nat), stps s y (1 :: l) = stps s (stp s y 1) l := fun y l => by unfold stps; rw [List.foldl_cons]
  have heta : (xc.1, xc.2) = xc := rfl
  have hdd : xd = stps s (2 + 33 * k, false) (1 :: List.replicate 32 1) := by rw [← hxd, dgA_eq, heta, hcons, ← hxc, hx]
  have hsum : (1 :: List.replicate 32 1 : List Nat).sum = 33 := by decide
  by_cases hok : 2 + 33 * k + 33 ≤ s.size
  · have hy : xd = (2 + 33 * k + 33, false) := by rw [hdd, stps_ok _ _ (by rw [hsum]; omega), hsum]
    refine ⟨(fun h => by rw [hy] at h; cases h), fun _ => ⟨(by rw [hy]; show 2 + 33 * k + 33 = _; omega), ?_⟩⟩
    have hcv : c = numAt s (2 + 33 * k) 1 := by rw [← hc, hx]; exact num_ok (by omega)
    have hyc : xc = (3 + 33 * k, false) := by rw [← hxc, hx, stp_ok (by omega), show 2 + 33 * k + 1 = 3 + 33 * k by omega]
    rw [hyc] at hR
    have hrl : R.toList = (byB s (3 + 33 * k) 32).map cell := by rw [← hR]; exact dg_cells (by omega)
    have hml : (markA c R).toList = mkCells [(numAt s (2 + 33 * k) 1, byB s (3 + 33 * k) 32)] := by
      rw [hcv]
      unfold markA
      rw [hrl]
      simp [mkCells, markRow]
    rw [msR_succ, mkCells_append, ← h2, hml]
  · have := stps_no (s := s) (1 :: List.replicate 32 1) (2 + 33 * k) (by omega) (by rw [hsum]; omega)
    rw [← hdd] at this
    exact ⟨(fun _ => by rw [hW hs2]; omega), (fun h => by rw [this] at h; cases h)⟩
/-- what read of a call leaves (the row's capacity hangs on the appends) -/
def ReadPost3 (s : ByteArray) (b : Nat) (w : World) (e : Ending) (w' : World) : Prop :=
  ∃ C a bad, e = .returned (.agg C) ∧ (C.size = 53 ∧ ∀ v ∈ C.toList, v.oneCell' = true) ∧ Blk w' b #[.string (s.extract a s.size), .bool bad] 89 ∧ Mod (fun x => x = b) w w' ∧ (s.size < widS 3 s → bad = true) ∧
    (widS 3 s ≤ s.size → bad = false ∧ a = widS 3 s ∧ ∃ p cap, MsgOf C { decM 3 s p with cap := cap } ∧ MksAt w' p (decM 3 s p).ms ∧ ∀ q, p = some q → w.heap.size ≤ q.block)
/-- the loop's worlds: k rounds done, the reader at x, the row v -/
structure InvR (s : ByteArray) (b mb : Nat) (D : Array Value) (w : World) (k : Nat) (x : Nat × Bool) (v : Value) (xs : List Value) (wr : World) : Prop where
  st : RdS s b mb (D.setIfInBounds 47 v) x w wr
  own : wr.ownsRow (mb + 1) 65 33 v k xs
  bad : x.2 = true → s.size < widS 3 s
  good : x.2 = false → x.1 = 2 + 33 * k ∧ xs = mkCells (msR s k)

set_option maxHeartbeats 4000000 in
set_option maxRecDepth 100000 in
theorem read3 (s : ByteArray) (b : Nat) (w : World) (hB : Blk w b #[.string s, .bool false] 89) (hs : s.size ≤ 140737488351232) :
    Calls Try.prog 36 #[.pointer (some ⟨b, 0, none⟩), .int .i64 3] w (ReadPost3 s b w) := by
  have hbl := hB.lt
  have e0 : s.extract 0 s.size = s := ByteArray.extract_zero_size
  have hB0 : Blk w b #[.string (s.extract 0 s.size), .bool false] 89 := by rw [e0]; exact hB
  clear e0 hB
  go_enter Try.func36, Try.ntmps36
  go_upto_region 1 with fail
  refine wp_world' (fun wx => Blk wx w.heap.size zero53 42 ∧ Blk wx b #[.string (s.extract 0 s.size), .bool false] 89 ∧ Mod (fun k => k = b) w wx ∧ w.heap.size < wx.heap.size) ⟨Blk.new w _ _, hB0.alloc _, (Mod.refl _ w).alloc _, by simp⟩ ?_
  rintro wa ⟨hZ, hBa, hma, hlt⟩
  have hn0 := Lib.hid (small_calls s 0 b 1 false wa hBa (by omega) (by omega) hs)
  have hZ0 := Lib.hid hZ
  clear hB0 hBa hZ
  go_wp2_with fail
  refine hn0.out.mono ?_
  rintro e wb ⟨rfl, hB1, hm1⟩
  have hZ1 := hZ0.out.mod hm1 (by omega)
  have hmb := hma.trans hm1
  have hlb : w.heap.size < wb.heap.size := Nat.lt_of_lt_of_le hlt hm1.size
  obtain ⟨x0, hx0⟩ : ∃ y, stp s (0, false) 1 = y := ⟨_, rfl⟩
  obtain ⟨v0, hv0⟩ : ∃ y, rdNum s 0 false 1 = y := ⟨_, rfl⟩
  replace hB1 : Blk wb b #[.string (s.extract (stp s (0, false) 1).1 s.size), .bool (stp s (0, false) 1).2] 89 := hB1
  have hin : (stp s (0, false) 1).1 ≤ s.size := rdAt_le (by omega)
  rw [hx0] at hB1 hin
  rw [hv0]
  have hru := Lib.hid (run_two 3 v0)
  have hs0 := Lib.hid (show zero53.size = ((zero53.setIfInBounds 0 (.int .i64 3)).setIfInBounds 1 (.int .i64 v0)).size by simp)
  have hs1 := Lib.hid (two_one 3 v0)
  have hs2 := Lib.hid (msg_size ((zero53.setIfInBounds 0 (.int .i64 3)).setIfInBounds 1 (.int .i64 v0)) (by simp; rfl))
  obtain ⟨D0, hD0⟩ : ∃ X, (zero53.setIfInBounds 0 (.int .i64 3)).setIfInBounds 1 (.int .i64 v0) = X := ⟨_, rfl⟩
  rw [hD0] at hru hs0 hs1 hs2
  have HB1 := Lib.hid hB1
  have HZ1 := Lib.hid hZ1
  have HL := Lib.hid hlb
  clear hB1 hZ1 hn0 hZ0 hma hm1 hlt hlb
  go_upto_region 2 with (first | (refine wpList_build2_v rfl 42 0 1 _ _ rfl (.int .i64 3) (.int .i64 v0) rfl rfl (.agg D0) (hru.out _) ?_) | (refine wpList_store_new rfl 42 _ _ rfl rfl rfl _ D0 _ rfl (by exact hs0.out) hs1.out hs2.out ?_))
  refine wp_world' (fun wx => RdS s b wb.heap.size D0 x0 w wx) ⟨HB1.out.alloc _, Blk.new _ _ _, HZ1.out.alloc _, hmb.alloc _, hin, hs0.out.symm, hs1.out, hbl, HL.out⟩ ?_
  rintro w0 h0
  generalize wb.heap.size = mb at *
  clear HB1 HZ1 HL hru hs0 hs1 hs2 hmb hin
  have hn1 := Lib.hid (small_calls s x0.1 b 1 x0.2 w0 h0.rd h0.inn (by omega) hs)
  have bd1 := rdNum_bd s x0.1 x0.2 1
  go_wp2_with fail
  refine hn1.out.mono ?_
  rintro e w1 ⟨rfl, hB1, hm1⟩
  have h1 := h0.call hB1 hm1
  obtain ⟨x1, hx1⟩ : ∃ y, stp s x0 1 = y := ⟨_, rfl⟩
  obtain ⟨v1, hv1⟩ : ∃ y, rdNum s x0.1 x0.2 1 = y := ⟨_, rfl⟩
  rw [hx1] at h1
  rw [hv1] at bd1 ⊢
  obtain ⟨N, rfl⟩ := Int.eq_ofNat_of_zero_le bd1.1
  have hN : N < 256 := by have := bd1.2; simp at this; omega
  have hW : 2 ≤ s.size → widS 3 s = 2 + 33 * N := by
    intro h2
    have y0 : x0 = (1, false) := by rw [← hx0, stp_ok (by omega)]
    have u1 : (N : Int) = numAt s 1 1 := by rw [← hv1, y0]; exact num_ok (by omega)
    unfold widS
    rw [if_neg (by omega), if_neg (by omega), if_pos rfl, if_neg (by omega), ← u1]
    rfl
  clear hB1 hm1 hn1 h0
  have hI0 : InvR s b mb D0 w 0 x1 (.slice none 0 0) [] w1 := by
    have hD47 : D0.setIfInBounds 47 (.slice none 0 0) = D0 := by rw [← hD0]; rfl
    refine ⟨by rw [hD47]; exact h1, World.ownsRow_nil _ _ _ _, fun hx => ?_, fun hx => ?_⟩
    · have : ¬ 2 ≤ s.size := fun h2 => by
        have y0 : x0 = (1, false) := by rw [← hx0, stp_ok (by omega)]
        have y1 : x1 = (2, false) := by rw [← hx1, y0, stp_ok (by omega)]
        rw [y1] at hx
        cases hx
      unfold widS
      rw [if_neg (by omega), if_neg (by omega), if_pos rfl, if_pos (by omega)]
      omega
    · have h2 : 2 ≤ s.size := by
        have e : x1 = stps s (0, false) [1, 1] := by rw [← hx1, ← hx0]; rfl
        rcases Nat.lt_or_ge s.size 2 with g | g
        · have := stps_no (s := s) [1, 1] 0 (by omega) (by simpa using g)
          rw [← e, hx] at this
          cases this
        · exact g
      have y0 : x0 = (1, false) := by rw [← hx0, stp_ok (by omega)]
      have y1 : x1 = (2, false) := by rw [← hx1, y0, stp_ok (by omega)]
      rw [y1]
      exact ⟨rfl, rfl⟩
  clear h1 bd1
  go_wp2_with fail
  go_loopw [7] (fun i wr => ∃ (k : Nat) (x : Nat × Bool) (v : Value) (xs : List Value), i = .int .i64 k ∧ k ≤ N ∧ InvR s b mb D0 w k x v xs wr) (fun i _ => N - (intOf i).toNat)
  case atStart => exact ⟨0, x1, _, _, rfl, Nat.zero_le _, hI0⟩
  case round =>
    obtain ⟨k, x, v, xs, rfl, hkN, hI⟩ := hrel
    have cb := hI.st.rd.cell (i := 1) rfl
    by_cases hlt : k < N
    · have hltI : (k : Int) < (N : Int) := by omega
      cases hbx : x.2 with
      | true =>
        rw [hbx] at cb
        have hend : x.2 = true ∨ k = N := .inl hbx
        have HI := Lib.hid hI
        have HZ := Lib.hid hI.st.z
        have hone : Hid (∀ u ∈ (D0.setIfInBounds 47 v).toList, u.oneCell' = true) := Lib.hid hI.st.one
        have hsz := Lib.hid (msg_size _ hI.st.sz)
        have hzs := Lib.hid (show zero53.size = (D0.setIfInBounds 47 v).size by rw [hI.st.sz]; rfl)
        have hld := Lib.hid (run_load_row' (P := Try.prog) wr mb 42 _ 42 _ hI.st.m Try.underlying42 rfl (msg_size _ hI.st.sz))
        have HE := Lib.hid hend
        obtain ⟨DF, hDF⟩ : ∃ X, D0.setIfInBounds 47 v = X := ⟨_, rfl⟩
        rw [hDF] at hone hsz hzs hld
        replace hDF := Lib.hid hDF
        clear hI hend
        go_wp2_with (first | (refine wpList_load_v rfl 42 _ rfl ⟨mb, 0, none⟩ rfl _ hld.out ?_) | (refine wpList_store_row2 rfl 42 _ _ rfl rfl w.heap.size rfl zero53 DF 42 HZ.out rfl (by exact hzs.out) hone.out hsz.out ?_; intro wz hBz hmz))
        (try simp only [Exit.inBlock, Exit.then])
        have hI := HI.out
        have hm1 := hI.st.mod
        have hbb := hI.st.hb
        have hmm := hI.st.hm
        refine bodyPost_ret (results_cell_row rfl _ _ w.heap.size _ _ _ _ rfl hBz Try.underlying42 rfl hsz.out) rfl ⟨DF, x.1, x.2, rfl, ⟨hzs.out.symm, hone.out⟩, hI.st.rd.mod hmz (by omega), ⟨hmz.os.trans hm1.os, hmz.tape.trans hm1.tape, hmz.output.trans hm1.output, Nat.le_trans hm1.size hmz.size, fun k hk hs => (hmz.block k (Nat.lt_of_lt_of_le hk hm1.size) (by omega)).trans (hm1.block k hk hs)⟩, ?_, ?_⟩
        · intro hsh
          cases hx : x.2 with
          | true => rfl
          | false =>
            exfalso
            obtain ⟨h1, _⟩ := hI.good hx
            have hin := hI.st.inn
            rcases HE.out with h | h
            · rw [hx] at h; cases h
            · have := hW (by omega)
              omega
        · intro hok
          have hx : x.2 = false := by
            cases hx : x.2 with
            | false => rfl
            | true => have := hI.bad hx; omega
          obtain ⟨h1, h2⟩ := hI.good hx
          have hin := hI.st.inn
          have hkN : k = N := by
            rcases HE.out with h | h
            · rw [hx] at h; cases h
            · exact h
          have hw := hW (by omega)
          refine ⟨hx, by omega, ?_⟩
          obtain ⟨p, cap, ev, hk, hbl⟩ := mks_of_own (ms := msR s k) (by rw [← h2]; exact hI.own) (fun y hy => by
            unfold msR at hy
            obtain ⟨j, _, rfl⟩ := List.mem_map.1 hy
            exact byB_length s _ 32) (by unfold msR; simp; omega)
          refine ⟨p, cap, ?_, ?_, fun q hq => by have := hbl q hq; have := hI.st.hm; omega⟩
          · have y0 : x0 = (1, false) := by rw [← hx0, stp_ok (by omega)]
            have u0 : v0 = numAt s 0 1 := by rw [← hv0, num_ok (by omega)]
            have u1 : (N : Int) = numAt s 1 1 := by rw [← hv1, y0]; exact num_ok (by omega)
            have hr := set_msP (two_of 3 v0) (msR s k) p cap
            have e : ({ ({ zeroM with kind := 3, round := v0 } : MV) with ms := msR s k, p := p, cap := cap } : MV) = { decM 3 s p with cap := cap } := by
              have hnk : (numAt s 1 1).toNat = k := by rw [← u1, hkN]; rfl
              simp [decM, zeroM, msR, u0, hnk]
            rw [e] at hr
            rw [← hDF.out, ev, ← hD0]
            exact hr
          · have hms : (decM 3 s p).ms = msR s k := by
              have y0 : x0 = (1, false) := by rw [← hx0, stp_ok (by omega)]
              have u1 : (N : Int) = numAt s 1 1 := by rw [← hv1, y0]; exact num_ok (by omega)
              have hnk : (numAt s 1 1).toNat = k := by rw [← u1, hkN]; rfl
              simp [decM, msR, hnk]
            rw [hms]
            exact mks_mod2 hk hmz (fun a ha e => by have := hbl a ha; omega)
      | false =>
        rw [hbx] at cb
        have hn2 := Lib.hid (small_calls s x.1 b 1 x.2 wr hI.st.rd hI.st.inn (by omega) hs)
        go_wp2_with fail
        refine hn2.out.mono ?_
        rintro e w2 ⟨rfl, hB2, hm2⟩
        have h2 := hI.st.call hB2 hm2
        obtain ⟨xc, hxc⟩ : ∃ y, stp s x 1 = y := ⟨_, rfl⟩
        obtain ⟨c, hc0⟩ : ∃ y, rdNum s x.1 x.2 1 = y := ⟨_, rfl⟩
        rw [hxc] at h2
        rw [hc0]
        have own2 := own_mod hI.own hm2 (fun g hg => by have := hI.st.hb; have := hI.st.hm; omega)
        obtain ⟨R, hR⟩ : ∃ X, dgRow s xc.1 xc.2 zero32 0 32 = X := ⟨_, rfl⟩
        obtain ⟨xd, hxd⟩ : ∃ X, dgA s xc.1 xc.2 32 = X := ⟨_, rfl⟩
        have hRs : R.size = 32 := by rw [← hR, dgRow_size]; rfl
        go_upto_region 25 with fail
        have hM1 : ∀ u ∈ (markA c R).toList, u.oneCell' = true := by
          intro u hu
          simp only [markA, List.mem_cons] at hu
          rcases hu with rfl | hu
          · rfl
          · rw [← hR] at hu; exact dgRow_one s xc.1 xc.2 32 u hu
        have hMs : (markA c R).size = 33 := markA_size c R hRs
        have h2m := h2.m
        have hm47 : ∀ u, (D0.setIfInBounds 47 u)[47]? = some u := fun u => set_eq (by have := h2.sz; rw [Array.size_setIfInBounds] at this; omega)
        have hvs := own_isQ own2
        refine wp_region_rove (X := Nat × Value) (0, undef) (fun x => [(96, .pointer (some ⟨mb, 47, none⟩)), (97, v), (98, .int .i64 c), (99, .pointer (some ⟨b, 0, none⟩)), (100, .agg R), (101, .agg (markA c R)), (102, .slice (some ⟨x.1, 0, none⟩) 1 1), (103, x.2), (104, .pointer (some ⟨mb, 47, none⟩))])
          (fun x d wx => ClQ s b mb D0 (markA c R) xc xd v k xs w x (d 4) (d 6) (d 7) (d 9) wx) (by kernel_rfl) (by kernel_rfl) (by kernel_rfl) (by kernel_rfl) (fun x => by kernel_rfl)
          ⟨h2.rd.drew, h2.m.drew, h2.z.drew, h2.mod.drew, fun _ => own2.drew, (fun h => by cases h), (fun h => by cases h), h2.hb, h2.hm⟩ ?_ ?_
        · intro aF hAF
          have E0 : ∀ x, (aF x).eval (.tmp 0) = .pointer (some ⟨b, 0, none⟩) := by intro x; rw [hAF]; kernel_rfl
          have E5 : ∀ x, (aF x).eval (.tmp 5) = .pointer (some ⟨mb, 0, none⟩) := by intro x; rw [hAF]; kernel_rfl
          have E8 : ∀ x, (aF x).eval (.tmp 8) = .int .i64 c := by intro x; rw [hAF]; kernel_rfl
          have T96 : ∀ x, (aF x).tmps[96]? = some (.pointer (some ⟨mb, 47, none⟩)) := by intro x; rw [hAF]; kernel_rfl
          have E96 : ∀ x, (aF x).eval (.tmp 96) = .pointer (some ⟨mb, 47, none⟩) := by intro x; rw [hAF]; kernel_rfl
          have T97 : ∀ x, (aF x).tmps[97]? = some (v) := by intro x; rw [hAF]; kernel_rfl
          have E97 : ∀ x, (aF x).eval (.tmp 97) = v := by intro x; rw [hAF]; kernel_rfl
          have T98 : ∀ x, (aF x).tmps[98]? = some (.int .i64 c) := by intro x; rw [hAF]; kernel_rfl
          have E98 : ∀ x, (aF x).eval (.tmp 98) = .int .i64 c := by intro x; rw [hAF]; kernel_rfl
          have T99 : ∀ x, (aF x).tmps[99]? = some (.pointer (some ⟨b, 0, none⟩)) := by intro x; rw [hAF]; kernel_rfl
          have E99 : ∀ x, (aF x).eval (.tmp 99) = .pointer (some ⟨b, 0, none⟩) := by intro x; rw [hAF]; kernel_rfl
          have T100 : ∀ x, (aF x).tmps[100]? = some (.agg R) := by intro x; rw [hAF]; kernel_rfl
          have E100 : ∀ x, (aF x).eval (.tmp 100) = .agg R := by intro x; rw [hAF]; kernel_rfl
          have T101 : ∀ x, (aF x).tmps[101]? = some (.agg (markA c R)) := by intro x; rw [hAF]; kernel_rfl
          have E101 : ∀ x, (aF x).eval (.tmp 101) = .agg (markA c R) := by intro x; rw [hAF]; kernel_rfl
          have T102 : ∀ x, (aF x).tmps[102]? = some (.slice (some ⟨x.1, 0, none⟩) 1 1) := by intro x; rw [hAF]; kernel_rfl
          have E102 : ∀ x, (aF x).eval (.tmp 102) = .slice (some ⟨x.1, 0, none⟩) 1 1 := by intro x; rw [hAF]; kernel_rfl
          have T103 : ∀ x, (aF x).tmps[103]? = some (x.2) := by intro x; rw [hAF]; kernel_rfl
          have E103 : ∀ x, (aF x).eval (.tmp 103) = x.2 := by intro x; rw [hAF]; kernel_rfl
          have T104 : ∀ x, (aF x).tmps[104]? = some (.pointer (some ⟨mb, 47, none⟩)) := by intro x; rw [hAF]; kernel_rfl
          have E104 : ∀ x, (aF x).eval (.tmp 104) = .pointer (some ⟨mb, 47, none⟩) := by intro x; rw [hAF]; kernel_rfl
          replace hAF := Lib.hid hAF
          refine ⟨?_, ?_, ?_, ?_, ?_, ?_, ?_, ?_, ?_, ?_, trivial⟩
          · exact opOk3_quiet _ (by intro x t hd _; cases hd; exact T96 x) (fun _ => rfl) fun x d w' hd hc => sv (run_fld 7 47 rfl (E5 x) (fun w => by kernel_rfl)) hc
          · exact opOk3_loud rfl fun x d w' hd hn hc => by
              have n9 : d 9 = false := hn 9 (by kernel_rfl)
              obtain ⟨p, m, c', e⟩ := hvs
              have hm := hc.m
              rw [n9] at hm
              have hcl : w'.cell? ⟨mb, 47, none⟩ = some v := hm.cell (hm47 _)
              rw [e] at hcl
              refine sk_vP (run_load1 rfl (E96 x) (run_sl38 hcl)) ⟨x, agree_same _ _, (by intro t hd _; cases hd; rw [← e]; exact T97 x), hc⟩
          · exact opOk3_quiet _ (by intro x t hd _; cases hd; exact T98 x) (fun _ => rfl) fun x d w' hd hc => sv (run_mov rfl (E8 x)) hc
          · exact opOk3_quiet _ (by intro x t hd _; cases hd; exact T99 x) (fun _ => rfl) fun x d w' hd hc => sv (run_mov rfl (E0 x)) hc
          · exact opOk3_loud rfl fun x d w' hd hn hc => by
              have n4 : d 4 = false := hn 4 (by kernel_rfl)
              have n6 : d 6 = false := hn 6 (by kernel_rfl)
              rw [n4] at hc
              refine sk (run_calldigd rfl (E99 x) rfl) ((digd_calls s xc.1 b xc.2 w' hc.rd h2.inn hs).mono ?_)
              rintro e w'' ⟨rfl, hB, hm⟩
              refine ⟨_, rfl, x, agree_same _ _, (by intro t hd _; cases hd; rw [hR]; exact T100 x), ?_⟩
              rw [hxd] at hB
              exact hc.read hB hm (fun h => by rw [n6] at h; cases h)
          · exact opOk3_quiet _ (by intro x t hd _; cases hd; exact T101 x) (fun _ => rfl) fun x d w' hd hc => sv (run_buildM rfl (E98 x) (E100 x) hRs) hc
          · exact opOk3_loud rfl fun x d w' hd hn hc => by
              have n6 : d 6 = false := hn 6 (by kernel_rfl)
              have n7 : d 7 = false := hn 7 (by kernel_rfl)
              rw [n6, n7] at hc
              rw [run_sliceM rfl (E101 x) hRs]
              refine ⟨(w'.heap.size, x.2), (by rw [hAF.out]; exact agree_setP 6 (102, .slice (some ⟨x.1, 0, none⟩) 1 1) rfl (by kernel_rfl)), (by intro t hd _; cases hd; exact T102 _), ?_⟩
              have := hc.made
              show ClQ s b mb D0 (markA c R) xc xd v k xs w _ (d 4) true (d 7) (d 9) _
              rw [n7]
              exact this
          · exact opOk3_loud rfl fun x d w' hd hn hc => by
              have n6 : d 6 = true := hd 6 (by kernel_rfl)
              have n7 : d 7 = false := hn 7 (by kernel_rfl)
              have n9 : d 9 = false := hn 9 (by kernel_rfl)
              rw [n6, n7, n9] at hc
              refine upon_appM (mb + 1) (by have := hc.m.lt; omega) v k xs rfl (E97 x) (hc.own rfl) (by omega) x.1 (markA c R) (E102 x) (hc.row rfl rfl) hMs hM1 fun v' w'' h2 h3 => ?_
              refine ⟨(x.1, v'), (by rw [hAF.out]; exact agree_setP 7 (103, x.2) rfl (by kernel_rfl)), (by intro t hd _; cases hd; exact T103 _), ?_⟩
              have := hc.appended h2 h3
              show ClQ s b mb D0 (markA c R) xc xd v k xs w _ (d 4) (d 6) true (d 9) _
              rw [n6, n9]
              exact this
          · exact opOk3_quiet _ (by intro x t hd _; cases hd; exact T104 x) (fun _ => rfl) fun x d w' hd hc => sv (run_fld 7 47 rfl (E5 x) (fun w => by kernel_rfl)) hc
          · exact opOk3_loud rfl fun x d w' hd hn hc => by
              have n7 : d 7 = true := hd 7 (by kernel_rfl)
              have n9 : d 9 = false := hn 9 (by kernel_rfl)
              rw [n7, n9] at hc
              obtain ⟨p, m, c', e⟩ := own_isQ (hc.own2 rfl)
              have hcm : Blk w' mb (D0.setIfInBounds 47 v) 42 := hc.m
              rw [run_store38 rfl (E104 x) ((E103 x).trans e) (hcm.cell (hm47 _)) (hcm.froz 47), ← e]
              refine ⟨x, agree_same _ _, (by intro t hd; cases hd), ?_⟩
              have := hc.stored
              show ClQ s b mb D0 (markA c R) xc xd v k xs w _ (d 4) (d 6) (d 7) true _
              rw [n7]
              exact this
        · intro x d w5 hd hc
          simp only [putAll, List.foldl_cons, List.foldl_nil, Act.put, List.setIfInBounds_toArray, List.set_cons_succ, List.set_cons_zero]
          rw [hd 4 (by decide), hd 6 (by decide), hd 7 (by decide), hd 9 (by decide)] at hc
          have hI5 : InvR s b mb D0 w (k + 1) xd x.2 (xs ++ (markA c R).toList) w5 := by
            have hsz : (D0.setIfInBounds 47 x.2).size = 53 := by have := h2.sz; rw [Array.size_setIfInBounds] at this ⊢; exact this
            obtain ⟨p5, m5, c5, e5⟩ := own_isQ (hc.own2 rfl)
            have hone5 : ∀ u ∈ (D0.setIfInBounds 47 x.2).toList, u.oneCell' = true := by
              have h47 := set_one h2.one 47 (v := x.2) (by rw [e5]; rfl)
              rwa [set_two] at h47
            obtain ⟨hb1, hb2⟩ := inv_next hI.bad hI.good hI.st.inn hbx hxc hc0 hxd hR hlt hW
            exact ⟨⟨hc.rd, hc.m, hc.z, hc.mod, (by rw [← hxd]; exact dgA_le h2.inn 32), hsz, hone5, hc.hb, hc.hm⟩, hc.own2 rfl, hb1, fun hx => (hb2 hx)⟩
          have HI5 := Lib.hid hI5
          clear hc hI5 hI hM1 hMs hvs hm47 h2m own2
          go_wp2_with fail
          go_roundw
          case rel => exact ⟨k + 1, xd, x.2, _, by go_num, by omega, HI5.out⟩
          case measure => simp [intOf]; omega
    · have hkN2 : k = N := by omega
      have hltI : ¬ (k : Int) < (N : Int) := by omega
      have hend : x.2 = true ∨ k = N := .inr hkN2
      have HI := Lib.hid hI
      have HZ := Lib.hid hI.st.z
      have hone : Hid (∀ u ∈ (D0.setIfInBounds 47 v).toList, u.oneCell' = true) := Lib.hid hI.st.one
      have hsz := Lib.hid (msg_size _ hI.st.sz)
      have hzs := Lib.hid (show zero53.size = (D0.setIfInBounds 47 v).size by rw [hI.st.sz]; rfl)
      have hld := Lib.hid (run_load_row' (P := Try.prog) wr mb 42 _ 42 _ hI.st.m Try.underlying42 rfl (msg_size _ hI.st.sz))
      have HE := Lib.hid hend
      obtain ⟨DF, hDF⟩ : ∃ X, D0.setIfInBounds 47 v = X := ⟨_, rfl⟩
      rw [hDF] at hone hsz hzs hld
      replace hDF := Lib.hid hDF
      clear hI hend
      go_wp2_with (first | (refine wpList_load_v rfl 42 _ rfl ⟨mb, 0, none⟩ rfl _ hld.out ?_) | (refine wpList_store_row2 rfl 42 _ _ rfl rfl w.heap.size rfl zero53 DF 42 HZ.out rfl (by exact hzs.out) hone.out hsz.out ?_; intro wz hBz hmz))
      (try simp only [Exit.inBlock, Exit.then])
      have hI := HI.out
      have hm1 := hI.st.mod
      have hbb := hI.st.hb
      have hmm := hI.st.hm
      refine bodyPost_ret (results_cell_row rfl _ _ w.heap.size _ _ _ _ rfl hBz Try.underlying42 rfl hsz.out) rfl ⟨DF, x.1, x.2, rfl, ⟨hzs.out.symm, hone.out⟩, hI.st.rd.mod hmz (by omega), ⟨hmz.os.trans hm1.os, hmz.tape.trans hm1.tape, hmz.output.trans hm1.output, Nat.le_trans hm1.size hmz.size, fun k hk hs => (hmz.block k (Nat.lt_of_lt_of_le hk hm1.size) (by omega)).trans (hm1.block k hk hs)⟩, ?_, ?_⟩
      · intro hsh
        cases hx : x.2 with
        | true => rfl
        | false =>
          exfalso
          obtain ⟨h1, _⟩ := hI.good hx
          have hin := hI.st.inn
          rcases HE.out with h | h
          · rw [hx] at h; cases h
          · have := hW (by omega)
            omega
      · intro hok
        have hx : x.2 = false := by
          cases hx : x.2 with
          | false => rfl
          | true => have := hI.bad hx; omega
        obtain ⟨h1, h2⟩ := hI.good hx
        have hin := hI.st.inn
        have hkN : k = N := by
          rcases HE.out with h | h
          · rw [hx] at h; cases h
          · exact h
        have hw := hW (by omega)
        refine ⟨hx, by omega, ?_⟩
        obtain ⟨p, cap, ev, hk, hbl⟩ := mks_of_own (ms := msR s k) (by rw [← h2]; exact hI.own) (fun y hy => by
          unfold msR at hy
          obtain ⟨j, _, rfl⟩ := List.mem_map.1 hy
          exact byB_length s _ 32) (by unfold msR; simp; omega)
        refine ⟨p, cap, ?_, ?_, fun q hq => by have := hbl q hq; have := hI.st.hm; omega⟩
        · have y0 : x0 = (1, false) := by rw [← hx0, stp_ok (by omega)]
          have u0 : v0 = numAt s 0 1 := by rw [← hv0, num_ok (by omega)]
          have u1 : (N : Int) = numAt s 1 1 := by rw [← hv1, y0]; exact num_ok (by omega)
          have hr := set_msP (two_of 3 v0) (msR s k) p cap
          have e : ({ ({ zeroM with kind := 3, round := v0 } : MV) with ms := msR s k, p := p, cap := cap } : MV) = { decM 3 s p with cap := cap } := by
            have hnk : (numAt s 1 1).toNat = k := by rw [← u1, hkN]; rfl
            simp [decM, zeroM, msR, u0, hnk]
          rw [e] at hr
          rw [← hDF.out, ev, ← hD0]
          exact hr
        · have hms : (decM 3 s p).ms = msR s k := by
            have y0 : x0 = (1, false) := by rw [← hx0, stp_ok (by omega)]
            have u1 : (N : Int) = numAt s 1 1 := by rw [← hv1, y0]; exact num_ok (by omega)
            have hnk : (numAt s 1 1).toNat = k := by rw [← u1, hkN]; rfl
            simp [decM, msR, hnk]
          rw [hms]
          exact mks_mod2 hk hmz (fun a ha e => by have := hbl a ha; omega)
end Go.Proofs.Ytcipdimnbleljaa
