/-
  Layer 28: DealKnown: the walk.
-/
import Derived.Test.YtkaoflndbcfodaaGreatWk28
namespace Go.Proofs.YtkaoflndbcfodaaGreat
open Go.RowKit

def dkT : List Rq := [rqMk [0, 0, 3, 0, 0, 1000, 0, 1000, 4, 0], rqMk [0, 0, 4, 0, 0, 1000, 0, 1000, 4, 0]]
def dkF : List Ve := [rqMk [0, 0, 5, 0, 100]]
def dkG : List Ve := [rqMk [0, 0, 3, 0, 100]]
def dkR : List Rou2 := (pputP dkF [prL 0] dkT 1).1
theorem dk_new : newC dkF dkT = 0 := by decide +kernel
theorem dk_newG : newC dkG dkT = 0 := by decide +kernel
theorem dk_put0 : pputP dkF (rows0 dkF) dkT 0 = ([prL 0], 6, 0) := by decide +kernel
theorem dk_put1 : pputP dkF [prL 0] dkT 1 = (dkR, 8, 0) := by decide +kernel
theorem dk_putG : pputP dkG (rows0 dkG) dkT 1 = (rows0 dkG, 0, 12) := by decide +kernel
theorem dk_hold : holdKR [dkR, rows0 dkG] dkT [0, 0] 2 = 0 := by decide +kernel
theorem dk_hold1 : holdKR [dkR, rows0 dkG] dkT [0, 1] 2 = 12 := by decide +kernel
theorem dk_hold2 : holdKR [dkR, rows0 dkG] dkT [0, 2] 2 = 12 := by decide +kernel
theorem dk_right : rightR [dkR, rows0 dkG] [0, 0] 2 = true := by decide +kernel
theorem dk_tot : totP dkG (rows0 dkG) dkT = 0 := by decide +kernel
set_option maxHeartbeats 32000000 in
set_option maxRecDepth 100000 in
theorem DealKnown_walk (w : World) : Calls Tryz.prog 5 #[] w fun e w' => e = .returned (.bool true) ∧ Below w.heap.size w w' := by
  go_enter Tryz.func5, Tryz.ntmps5
  go_upto_region 3 with fail
  refine wp_world' (fun wx => Els wx (some ⟨w.heap.size + 1, 0, none⟩) 10 (dkT.map rqV) ∧ Below w.heap.size w wx) ⟨els_litP (blk_newAtC (by simp) (dkT.map rqV).flatten.toArray 55) (rqV_len _) (by decide), (new_below _ _).alloc (by simp) _⟩ ?_
  rintro w1 ⟨hT, hb1⟩
  have hF1 := els_litP (Blk.new w1 (dkF.map veR).flatten.toArray 59) (veR_lenP _) (by decide)
  have hlow1 := new_below w1 (.cells (dkF.map veR).flatten.toArray 59)
  have hba := hb1.trans (hlow1.mono hb1.size)
  have hn1 := Lib.hid (pnew_calls (some ⟨w1.heap.size, 0, none⟩) (some ⟨w.heap.size + 1, 0, none⟩) 1 2 dkF dkT _ hF1 (by decide) (hT.below hlow1) (by decide))
  unfold NwPost at hn1
  have hL0 := Lib.hid (PcsAt.nil (B := w.heap.size) (w := w1.alloc (.cells (dkF.map veR).flatten.toArray 59)) (t := dkT) (by decide))
  replace hT := Lib.hid (hT.below hlow1)
  replace hba := Lib.hid hba
  clear hF1 hlow1 hb1
  go_wp2_with fail
  refine hn1.out.mono ?_
  clear hn1
  rintro e w2 ⟨hb2, hor⟩
  rcases hor with ⟨h, _⟩ | ⟨_, b1, gT1, gM1, F1, rfl, hF1, hPl1⟩
  · exact absurd dk_new h
  have hL1 := new_more hL0.out hb2 hba.out.size hF1 hPl1 dk_new
  have hT2 := hT.out.below hb2
  have hbb := hba.out.trans (hb2.mono hba.out.size)
  have hF2 := els_litP (Blk.new w2 (dkG.map veR).flatten.toArray 59) (veR_lenP _) (by decide)
  have hlow2 := new_below w2 (.cells (dkG.map veR).flatten.toArray 59)
  have hn2 := Lib.hid (pnew_calls (some ⟨w2.heap.size, 0, none⟩) (some ⟨w.heap.size + 1, 0, none⟩) 1 2 dkG dkT _ hF2 (by decide) (hT2.below hlow2) (by decide))
  unfold NwPost at hn2
  have hL1' := Lib.hid (hL1.below hlow2)
  have hbc := Lib.hid (hbb.trans (hlow2.mono hbb.size))
  clear hF2 hlow2 hT2 hT hL1 hL0 hba hbb hPl1 hF1 hb2
  go_wp2_with fail
  refine hn2.out.mono ?_
  clear hn2
  rintro e w3 ⟨hb3, hor⟩
  rcases hor with ⟨h, _⟩ | ⟨_, b2, gT2, gM2, F2, rfl, hF2, hPl2⟩
  · exact absurd dk_newG h
  have hL2 := new_more hL1'.out hb3 hbc.out.size hF2 hPl2 dk_newG
  have hb3' := Lib.hid (hbc.out.trans (hb3.mono hbc.out.size))
  obtain ⟨p1, ep1⟩ : ∃ p : Pc, p = ⟨b1, gT1, gM1, 0, dkF, rows0 dkF, F1⟩ := ⟨_, rfl⟩
  obtain ⟨q1, eq1⟩ : ∃ p : Pc, p = ⟨b2, gT2, gM2, 0, dkG, rows0 dkG, F2⟩ := ⟨_, rfl⟩
  have hL3 : PcsAt w.heap.size w3 dkT [p1, q1] := by
    rw [ep1, eq1]
    exact hL2
  obtain ⟨r1, r2, r3, r4⟩ : p1.b = b1 ∧ p1.fl = dkF ∧ p1.rows = rows0 dkF ∧ p1.N = 0 := by rw [ep1]; exact ⟨rfl, rfl, rfl, rfl⟩
  obtain ⟨s1, s2, s3, s4⟩ : q1.b = b2 ∧ q1.fl = dkG ∧ q1.rows = rows0 dkG ∧ q1.N = 0 := by rw [eq1]; exact ⟨rfl, rfl, rfl, rfl⟩
  clear ep1 eq1 hL2 hL1' hF2 hPl2 hb3 hbc
  have hpu := Lib.hid (by
    have := two_put hL3 hb3'.out.size (by omega) (req := 0) (R := [prL 0]) (z1 := 6) (z2 := 0) (by rw [r2, r3]; exact dk_put0) (wf_lit (by omega))
    rw [r1, r2, r4] at this
    exact this)
  clear hL3 r1 r2 r3 r4
  replace s1 := Lib.hid s1
  go_wp2_with fail
  refine hpu.out.mono ?_
  clear hpu
  rintro e w4 ⟨rfl, p2, ⟨r1, r2, r4, r3⟩, hL4, hb4⟩
  have hb4' := Lib.hid (hb3'.out.trans hb4)
  have hpu := Lib.hid (by
    have := two_put hL4 hb4'.out.size (by omega) (req := 1) (R := dkR) (z1 := 8) (z2 := 0) (by rw [r2, r3]; exact dk_put1) (wf_lit (by omega))
    rw [r1, r2, r4] at this
    exact this)
  clear hL4 r1 r2 r3 r4 hb4 hb3'
  go_wp2_with fail
  refine hpu.out.mono ?_
  clear hpu
  rintro e w5 ⟨rfl, p3, ⟨u1, u2, u3, u4⟩, hL5, hb5⟩
  have hb5' := Lib.hid (hb4'.out.trans hb5)
  have hne := hL5.ne (i := 0) (j := 1) (by simp) (by simp) (by omega)
  change p3.b ≠ q1.b at hne
  replace hL5 := Lib.hid hL5
  replace u1 := Lib.hid u1
  clear hb5 hb4'
  have hdl : dlC [some p3, some q1] dkT [0, 0] = 0 := by
    rw [dlC_two hne (by decide), u4, s3]
    exact dk_hold
  have hQl := els_litP (n := 1) (R := [[.pointer (some ⟨b1, 0, none⟩)], [.pointer (some ⟨b2, 0, none⟩)]]) (blk_newAtC (w := w5) rfl #[.pointer (some ⟨b1, 0, none⟩), .pointer (some ⟨b2, 0, none⟩)] 42) (by intro x hx; simp at hx; rcases hx with rfl | rfl <;> rfl) (by simp)
  have eQ : ([some p3, some q1] : List (Option Pc)).map ptrO = [[.pointer (some ⟨b1, 0, none⟩)], [.pointer (some ⟨b2, 0, none⟩)]] := by
    show ([[.pointer (some ⟨p3.b, 0, none⟩)], [.pointer (some ⟨q1.b, 0, none⟩)]] : List (List Value)) = _
    rw [u1.out, s1.out]
  have hw5 := new_below w5 (.cells #[.pointer (some ⟨b1, 0, none⟩), .pointer (some ⟨b2, 0, none⟩)] 42)
  have hHl := els_litP (n := 1) (R := [[.int .i64 0], [.int .i64 0]]) (blk_newAtC (w := w5.alloc (.cells #[.pointer (some ⟨b1, 0, none⟩), .pointer (some ⟨b2, 0, none⟩)] 42)) (g := w5.heap.size + 1) (by simp) #[.int .i64 0, .int .i64 0] 3) (by intro x hx; simp at hx; rw [hx]; rfl) (by simp)
  have hw6 := new_below (w5.alloc (.cells #[.pointer (some ⟨b1, 0, none⟩), .pointer (some ⟨b2, 0, none⟩)] 42)) (.cells #[.int .i64 0, .int .i64 0] 3)
  have hw46 := hw5.trans (hw6.mono (by simp))
  have hL6 := hL5.out.below hw46
  have hn3 := Lib.hid (dnew_calls (t := dkT) [some p3, some q1] [0, 0] (some ⟨w5.heap.size, 0, none⟩) (some ⟨w5.heap.size + 1, 0, none⟩) 2 2 _ (by rw [eQ]; exact hQl.below hw6) (show Els _ _ 1 (([0, 0] : List Int).map inV) from hHl) (by simp) (by simp) (fun p hp => by
    simp only [List.mem_cons, Option.some.injEq, List.not_mem_nil, or_false] at hp
    exact hL6.at_ p (by simp only [List.mem_cons, List.not_mem_nil, or_false]; (exact hp))) (by decide) (fun p hp => by
    simp only [List.mem_cons, Option.some.injEq, List.not_mem_nil, or_false] at hp
    rcases hp with rfl | rfl <;> omega))
  have hL6' := Lib.hid hL6
  have hb6 := Lib.hid (hb5'.out.trans (hw46.mono hb5'.out.size))
  clear hQl hw5 hw46 hL6 eQ hHl hw6 hL5
  go_wp2_with fail
  refine hn3.out.mono ?_
  clear hn3
  rintro e w7 ⟨hb7, hor⟩
  rcases hor with ⟨h, _⟩ | ⟨_, d, gP, cP, qH, cH, rfl, hD, _, _, hqH⟩
  · exact absurd hdl h
  have hqW := Lib.hid (fun a (ha : qH = some a) => Nat.le_trans hb6.out.size (hqH a ha (by simp)))
  have hL7 := Lib.hid (hL6'.out.below hb7)
  have hb7' := Lib.hid (hb6.out.trans (hb7.mono hb6.out.size))
  have hD7 := Lib.hid (show DlIn w7 d [p3, q1] [0, 0] gP cP qH cH from hD)
  clear hD hb7 hL6' hb6 hdl hqH hb5'
  have hs4 := Lib.hid (show Calls Tryz.prog 16 #[.pointer (some ⟨d, 0, none⟩), .int .i64 1, .int .i64 1] w7 (fun e w' => e = .returned (.tuple #[.int .i64 0, .int .i64 12]) ∧ ∃ P Q : Pc, PcsAt w.heap.size w' dkT [P, Q] ∧ DlIn w' d [P, Q] [0, 0] gP cP qH cH ∧
      (P.b = b1 ∧ P.rows = dkR ∧ P.N ≤ 3) ∧ (Q.b = b2 ∧ Q.fl = dkG ∧ Q.rows = rows0 dkG ∧ Q.N ≤ 1) ∧ Below w.heap.size w7 w') from by
    refine (dsell_go hD7.out hL7.out hb7'.out.size (r := 1) (h := 0) (c := 1) (by decide) (by simp) (by simp) rfl (by omega) (by show q1.N < 1000000; omega)).mono ?_
    rintro e w' ⟨e1, L', h1, h2, h3, h4, h5⟩
    have hpp' : pputP (([p3, q1] : List Pc).getD 1 pc0).fl (([p3, q1] : List Pc).getD 1 pc0).rows dkT ((1 : Nat) : Int) = (rows0 dkG, 0, 12) := by
      show pputP q1.fl q1.rows dkT 1 = _
      rw [s2, s3]
      exact dk_putG
    rw [hpp'] at e1 h2
    rw [if_pos (by show (12 : Int) ≠ 0; omega)] at h2
    obtain ⟨⟨a1, _, a5⟩, a3, _⟩ := h4 0 (by simp)
    obtain ⟨⟨c1, c2, c5⟩, c3, _⟩ := h4 1 (by simp)
    have g0 : ∀ i, sellR dkT [p3, q1] 0 1 ((1 : Nat) : Int) i = (([p3, q1] : List Pc).getD i pc0).rows := fun i => by
      unfold sellR
      rw [hpp', if_pos (by show (12 : Int) ≠ 0; omega)]
    rw [g0] at a3 c3
    have hL2 := list_two L' pc0 h3
    refine ⟨e1, L'.getD 0 pc0, L'.getD 1 pc0, by rw [← hL2]; exact h1, by rw [← hL2]; exact h2, ⟨a1.trans u1.out, a3.trans u4, Nat.le_trans a5 (by show p3.N + 1 ≤ 3; omega)⟩, ⟨c1.trans s1.out, c2.trans s2, c3.trans s3, Nat.le_trans c5 (by show q1.N + 1 ≤ 1; omega)⟩, h5.below hb7'.out.size (fun k hk => ?_)⟩
    rcases hk with ⟨i, hi, hk⟩ | ⟨a, ha, rfl⟩
    · exact (hL7.out.get hi).2.2 k hk
    · exact hqW.out a ha)
  clear hL7 hD7 hqW
  go_wp2_with fail
  refine hs4.out.mono ?_
  clear hs4 u1 u2 u3 u4 s1 s2 s3 s4 hne
  rintro e w8 ⟨rfl, P, Q, hL8, hD8, ⟨u1, u4, u5⟩, ⟨s1, s2, s3, s5⟩, hb8⟩
  have hne := hL8.ne (i := 0) (j := 1) (by simp) (by simp) (by omega)
  change P.b ≠ Q.b at hne
  have hb8' := Lib.hid (hb7'.out.trans hb8)
  replace hL8 := Lib.hid hL8
  replace hD8 := Lib.hid hD8
  replace u1 := Lib.hid u1
  replace s1 := Lib.hid s1
  clear hb8 hb7'
  have hn3 := Lib.hid (dnew_calls (B := w.heap.size) (t := dkT) [] [] none none 0 0 w8 (els_nilP _ _ _) (els_nilP _ _ _) (by simp) (by simp) (fun p hp => by cases hp) (by decide) (fun p hp => by cases hp))
  go_wp2_with fail
  refine hn3.out.mono ?_
  clear hn3
  rintro e w9 ⟨hb7, hor⟩
  obtain ⟨_, rfl⟩ : _ ∧ _ := hor.resolve_right (fun h => by have := h.1; rw [dlC_zero] at this; cases this)
  rw [dlC_zero]
  have hL9 := Lib.hid (hL8.out.below hb7)
  have hD9 := Lib.hid (hD8.out.below hb7)
  have hb9' := Lib.hid (hb8'.out.trans (hb7.mono hb8'.out.size))
  clear hb7 hL8 hD8 hb8'
  have hdl : dlC [some P, none] dkT [0, 0] = 1 := by
    exact dlC_nil (by decide)
  have hQl := els_litP (n := 1) (R := [[.pointer (some ⟨b1, 0, none⟩)], [.pointer none]]) (blk_newAtC (w := w9) rfl #[.pointer (some ⟨b1, 0, none⟩), .pointer none] 42) (by intro x hx; simp at hx; rcases hx with rfl | rfl <;> rfl) (by simp)
  have eQ : ([some P, none] : List (Option Pc)).map ptrO = [[.pointer (some ⟨b1, 0, none⟩)], [.pointer none]] := by
    show ([[.pointer (some ⟨P.b, 0, none⟩)], [.pointer none]] : List (List Value)) = _
    rw [u1.out]
  have hw5 := new_below w9 (.cells #[.pointer (some ⟨b1, 0, none⟩), .pointer none] 42)
  have hHl := els_litP (n := 1) (R := [[.int .i64 0], [.int .i64 0]]) (blk_newAtC (w := w9.alloc (.cells #[.pointer (some ⟨b1, 0, none⟩), .pointer none] 42)) (g := w9.heap.size + 1) (by simp) #[.int .i64 0, .int .i64 0] 3) (by intro x hx; simp at hx; rw [hx]; rfl) (by simp)
  have hw6 := new_below (w9.alloc (.cells #[.pointer (some ⟨b1, 0, none⟩), .pointer none] 42)) (.cells #[.int .i64 0, .int .i64 0] 3)
  have hw46 := hw5.trans (hw6.mono (by simp))
  have hL6 := hL9.out.below hw46
  have hn3 := Lib.hid (dnew_calls (t := dkT) [some P, none] [0, 0] (some ⟨w9.heap.size, 0, none⟩) (some ⟨w9.heap.size + 1, 0, none⟩) 2 2 _ (by rw [eQ]; exact hQl.below hw6) (show Els _ _ 1 (([0, 0] : List Int).map inV) from hHl) (by simp) (by simp) (fun p hp => by
    simp only [List.mem_cons, Option.some.injEq, List.not_mem_nil, or_false, reduceCtorEq] at hp
    exact hL6.at_ p (by simp only [List.mem_cons, List.not_mem_nil, or_false]; (first
      | exact .inl hp
      | exact hp.elim .inl .inl))) (by decide) (fun p hp => by
    simp only [List.mem_cons, Option.some.injEq, List.not_mem_nil, or_false, reduceCtorEq] at hp
    first
      | (subst hp; omega)
      | (rcases hp with rfl | rfl <;> omega)))
  have hL6' := Lib.hid hL6
  have hD6 := Lib.hid (hD9.out.below hw46)
  have hb6 := Lib.hid (hb9'.out.trans (hw46.mono hb9'.out.size))
  clear hQl hw5 hw46 hL6 eQ hHl hw6 hL9
  go_wp2_with fail
  refine hn3.out.mono ?_
  clear hn3
  rintro e w10 ⟨hb7, hor⟩
  obtain ⟨_, rfl⟩ : _ ∧ _ := hor.resolve_right (fun h => by have := h.1; rw [hdl] at this; cases this)
  rw [hdl]
  have hL10 := Lib.hid (hL6'.out.below hb7)
  have hD10 := Lib.hid (hD6.out.below hb7)
  have hb10' := Lib.hid (hb6.out.trans (hb7.mono hb6.out.size))
  clear hb7 hL6' hD6 hb6 hdl hD9 hb9'
  have hdl : dlC [some P, some P] dkT [0, 0] = 13 := by
    exact dlC_same (by decide)
  have hQl := els_litP (n := 1) (R := [[.pointer (some ⟨b1, 0, none⟩)], [.pointer (some ⟨b1, 0, none⟩)]]) (blk_newAtC (w := w10) rfl #[.pointer (some ⟨b1, 0, none⟩), .pointer (some ⟨b1, 0, none⟩)] 42) (by intro x hx; simp at hx; rcases hx with rfl | rfl <;> rfl) (by simp)
  have eQ : ([some P, some P] : List (Option Pc)).map ptrO = [[.pointer (some ⟨b1, 0, none⟩)], [.pointer (some ⟨b1, 0, none⟩)]] := by
    show ([[.pointer (some ⟨P.b, 0, none⟩)], [.pointer (some ⟨P.b, 0, none⟩)]] : List (List Value)) = _
    rw [u1.out]
  have hw5 := new_below w10 (.cells #[.pointer (some ⟨b1, 0, none⟩), .pointer (some ⟨b1, 0, none⟩)] 42)
  have hHl := els_litP (n := 1) (R := [[.int .i64 0], [.int .i64 0]]) (blk_newAtC (w := w10.alloc (.cells #[.pointer (some ⟨b1, 0, none⟩), .pointer (some ⟨b1, 0, none⟩)] 42)) (g := w10.heap.size + 1) (by simp) #[.int .i64 0, .int .i64 0] 3) (by intro x hx; simp at hx; rw [hx]; rfl) (by simp)
  have hw6 := new_below (w10.alloc (.cells #[.pointer (some ⟨b1, 0, none⟩), .pointer (some ⟨b1, 0, none⟩)] 42)) (.cells #[.int .i64 0, .int .i64 0] 3)
  have hw46 := hw5.trans (hw6.mono (by simp))
  have hL6 := hL10.out.below hw46
  have hn3 := Lib.hid (dnew_calls (t := dkT) [some P, some P] [0, 0] (some ⟨w10.heap.size, 0, none⟩) (some ⟨w10.heap.size + 1, 0, none⟩) 2 2 _ (by rw [eQ]; exact hQl.below hw6) (show Els _ _ 1 (([0, 0] : List Int).map inV) from hHl) (by simp) (by simp) (fun p hp => by
    simp only [List.mem_cons, Option.some.injEq, List.not_mem_nil, or_false] at hp
    exact hL6.at_ p (by simp only [List.mem_cons, List.not_mem_nil, or_false]; (first
      | exact .inl hp
      | exact hp.elim .inl .inl))) (by decide) (fun p hp => by
    simp only [List.mem_cons, Option.some.injEq, List.not_mem_nil, or_false] at hp
    first
      | (subst hp; omega)
      | (rcases hp with rfl | rfl <;> omega)))
  have hL6' := Lib.hid hL6
  have hD6 := Lib.hid (hD10.out.below hw46)
  have hb6 := Lib.hid (hb10'.out.trans (hw46.mono hb10'.out.size))
  clear hQl hw5 hw46 hL6 eQ hHl hw6 hL10
  go_wp2_with fail
  refine hn3.out.mono ?_
  clear hn3
  rintro e w11 ⟨hb7, hor⟩
  obtain ⟨_, rfl⟩ : _ ∧ _ := hor.resolve_right (fun h => by have := h.1; rw [hdl] at this; cases this)
  rw [hdl]
  have hL11 := Lib.hid (hL6'.out.below hb7)
  have hD11 := Lib.hid (hD6.out.below hb7)
  have hb11' := Lib.hid (hb6.out.trans (hb7.mono hb6.out.size))
  clear hb7 hL6' hD6 hb6 hdl hD10 hb10'
  have hdl : dlC [some P, some Q] dkT [0, 1] = 12 := by
    rw [dlC_two hne (by decide), u4, s3]
    exact dk_hold1
  have hQl := els_litP (n := 1) (R := [[.pointer (some ⟨b1, 0, none⟩)], [.pointer (some ⟨b2, 0, none⟩)]]) (blk_newAtC (w := w11) rfl #[.pointer (some ⟨b1, 0, none⟩), .pointer (some ⟨b2, 0, none⟩)] 42) (by intro x hx; simp at hx; rcases hx with rfl | rfl <;> rfl) (by simp)
  have eQ : ([some P, some Q] : List (Option Pc)).map ptrO = [[.pointer (some ⟨b1, 0, none⟩)], [.pointer (some ⟨b2, 0, none⟩)]] := by
    show ([[.pointer (some ⟨P.b, 0, none⟩)], [.pointer (some ⟨Q.b, 0, none⟩)]] : List (List Value)) = _
    rw [u1.out, s1.out]
  have hw5 := new_below w11 (.cells #[.pointer (some ⟨b1, 0, none⟩), .pointer (some ⟨b2, 0, none⟩)] 42)
  have hHl := els_litP (n := 1) (R := [[.int .i64 0], [.int .i64 1]]) (blk_newAtC (w := w11.alloc (.cells #[.pointer (some ⟨b1, 0, none⟩), .pointer (some ⟨b2, 0, none⟩)] 42)) (g := w11.heap.size + 1) (by simp) #[.int .i64 0, .int .i64 1] 3) (by intro x hx; simp at hx; rcases hx with rfl | rfl <;> rfl) (by simp)
  have hw6 := new_below (w11.alloc (.cells #[.pointer (some ⟨b1, 0, none⟩), .pointer (some ⟨b2, 0, none⟩)] 42)) (.cells #[.int .i64 0, .int .i64 1] 3)
  have hw46 := hw5.trans (hw6.mono (by simp))
  have hL6 := hL11.out.below hw46
  have hn3 := Lib.hid (dnew_calls (t := dkT) [some P, some Q] [0, 1] (some ⟨w11.heap.size, 0, none⟩) (some ⟨w11.heap.size + 1, 0, none⟩) 2 2 _ (by rw [eQ]; exact hQl.below hw6) (show Els _ _ 1 (([0, 1] : List Int).map inV) from hHl) (by simp) (by simp) (fun p hp => by
    simp only [List.mem_cons, Option.some.injEq, List.not_mem_nil, or_false] at hp
    exact hL6.at_ p (by simp only [List.mem_cons, List.not_mem_nil, or_false]; (exact hp))) (by decide) (fun p hp => by
    simp only [List.mem_cons, Option.some.injEq, List.not_mem_nil, or_false] at hp
    rcases hp with rfl | rfl <;> omega))
  have hL6' := Lib.hid hL6
  have hD6 := Lib.hid (hD11.out.below hw46)
  have hb6 := Lib.hid (hb11'.out.trans (hw46.mono hb11'.out.size))
  clear hQl hw5 hw46 hL6 eQ hHl hw6 hL11
  go_wp2_with fail
  refine hn3.out.mono ?_
  clear hn3
  rintro e w12 ⟨hb7, hor⟩
  obtain ⟨_, rfl⟩ : _ ∧ _ := hor.resolve_right (fun h => by have := h.1; rw [hdl] at this; cases this)
  rw [hdl]
  have hL12 := Lib.hid (hL6'.out.below hb7)
  have hD12 := Lib.hid (hD6.out.below hb7)
  have hb12' := Lib.hid (hb6.out.trans (hb7.mono hb6.out.size))
  clear hb7 hL6' hD6 hb6 hdl hD11 hb11'
  have hdl : dlC [some P, some Q] dkT [0, 2] = 12 := by
    rw [dlC_two hne (by decide), u4, s3]
    exact dk_hold2
  have hQl := els_litP (n := 1) (R := [[.pointer (some ⟨b1, 0, none⟩)], [.pointer (some ⟨b2, 0, none⟩)]]) (blk_newAtC (w := w12) rfl #[.pointer (some ⟨b1, 0, none⟩), .pointer (some ⟨b2, 0, none⟩)] 42) (by intro x hx; simp at hx; rcases hx with rfl | rfl <;> rfl) (by simp)
  have eQ : ([some P, some Q] : List (Option Pc)).map ptrO = [[.pointer (some ⟨b1, 0, none⟩)], [.pointer (some ⟨b2, 0, none⟩)]] := by
    show ([[.pointer (some ⟨P.b, 0, none⟩)], [.pointer (some ⟨Q.b, 0, none⟩)]] : List (List Value)) = _
    rw [u1.out, s1.out]
  have hw5 := new_below w12 (.cells #[.pointer (some ⟨b1, 0, none⟩), .pointer (some ⟨b2, 0, none⟩)] 42)
  have hHl := els_litP (n := 1) (R := [[.int .i64 0], [.int .i64 2]]) (blk_newAtC (w := w12.alloc (.cells #[.pointer (some ⟨b1, 0, none⟩), .pointer (some ⟨b2, 0, none⟩)] 42)) (g := w12.heap.size + 1) (by simp) #[.int .i64 0, .int .i64 2] 3) (by intro x hx; simp at hx; rcases hx with rfl | rfl <;> rfl) (by simp)
  have hw6 := new_below (w12.alloc (.cells #[.pointer (some ⟨b1, 0, none⟩), .pointer (some ⟨b2, 0, none⟩)] 42)) (.cells #[.int .i64 0, .int .i64 2] 3)
  have hw46 := hw5.trans (hw6.mono (by simp))
  have hL6 := hL12.out.below hw46
  have hn3 := Lib.hid (dnew_calls (t := dkT) [some P, some Q] [0, 2] (some ⟨w12.heap.size, 0, none⟩) (some ⟨w12.heap.size + 1, 0, none⟩) 2 2 _ (by rw [eQ]; exact hQl.below hw6) (show Els _ _ 1 (([0, 2] : List Int).map inV) from hHl) (by simp) (by simp) (fun p hp => by
    simp only [List.mem_cons, Option.some.injEq, List.not_mem_nil, or_false] at hp
    exact hL6.at_ p (by simp only [List.mem_cons, List.not_mem_nil, or_false]; (exact hp))) (by decide) (fun p hp => by
    simp only [List.mem_cons, Option.some.injEq, List.not_mem_nil, or_false] at hp
    rcases hp with rfl | rfl <;> omega))
  have hL6' := Lib.hid hL6
  have hD6 := Lib.hid (hD12.out.below hw46)
  have hb6 := Lib.hid (hb12'.out.trans (hw46.mono hb12'.out.size))
  clear hQl hw5 hw46 hL6 eQ hHl hw6 hL12
  go_wp2_with fail
  refine hn3.out.mono ?_
  clear hn3
  rintro e w13 ⟨hb7, hor⟩
  obtain ⟨_, rfl⟩ : _ ∧ _ := hor.resolve_right (fun h => by have := h.1; rw [hdl] at this; cases this)
  rw [hdl]
  have hL13 := Lib.hid (hL6'.out.below hb7)
  have hD13 := Lib.hid (hD6.out.below hb7)
  have hb13' := Lib.hid (hb6.out.trans (hb7.mono hb6.out.size))
  clear hb7 hL6' hD6 hb6 hdl hD12 hb12'
  have hQl := els_litP (n := 1) (R := [[.pointer (some ⟨b2, 0, none⟩)]]) (blk_newAtC (w := w13) rfl #[.pointer (some ⟨b2, 0, none⟩)] 42) (by intro x hx; simp at hx; rcases hx with rfl <;> rfl) (by simp)
  have eQ : ([some Q] : List (Option Pc)).map ptrO = [[.pointer (some ⟨b2, 0, none⟩)]] := by
    show ([[.pointer (some ⟨Q.b, 0, none⟩)]] : List (List Value)) = _
    rw [s1.out]
  have hw5 := new_below w13 (.cells #[.pointer (some ⟨b2, 0, none⟩)] 42)
  have hw46 := hw5
  have hL6 := hL13.out.below hw46
  have hn3 := Lib.hid (dnew_calls (t := dkT) [some Q] [] (some ⟨w13.heap.size, 0, none⟩) (none) 1 0 _ (by rw [eQ]; exact hQl) (els_nilP _ _ _) (by simp) (by simp) (fun p hp => by
    simp only [List.mem_cons, Option.some.injEq, List.not_mem_nil, or_false] at hp
    exact hL6.at_ p (by simp only [List.mem_cons, List.not_mem_nil, or_false]; (exact .inr hp))) (by decide) (fun p hp => by
    simp only [List.mem_cons, Option.some.injEq, List.not_mem_nil, or_false] at hp
    subst hp; omega))
  have hL6' := Lib.hid hL6
  have hD6 := Lib.hid (hD13.out.below hw46)
  have hb6 := Lib.hid (hb13'.out.trans (hw46.mono hb13'.out.size))
  clear hQl hw5 hw46 hL6 eQ hL13
  go_wp2_with fail
  refine hn3.out.mono ?_
  clear hn3
  rintro e w14 ⟨hb7, hor⟩
  rcases hor with ⟨h, _⟩ | ⟨_, d2, gP2, cP2, qH2, cH2, rfl, hDn, _, _, _⟩
  · exact absurd dlC_one h
  have hL14 := hL6'.out.below hb7
  have hD14 := hD6.out.below hb7
  have hb14' := Lib.hid (hb6.out.trans (hb7.mono hb6.out.size))
  have hDn' : DlIn w14 d2 [Q] [] gP2 cP2 qH2 cH2 := hDn
  have hLq : PcsAt w.heap.size w14 dkT [Q] := ⟨hL14.tl, fun p hp => hL14.at_ p (by simp only [List.mem_cons, List.not_mem_nil, or_false] at hp ⊢; exact .inr hp), fun i j hi hj hij => by simp at hi hj; omega⟩
  have hh1 := Lib.hid (fun wx (hb : Below w14.heap.size w14 wx) => (show Calls Tryz.prog 17 #[.pointer (some ⟨d, 0, none⟩), .int .i64 1] wx fun e w' => e = .returned (.int .i64 0) ∧ wx = w' from dholder_calls (hD14.below hb) 1))
  have hri := Lib.hid (fun wx (hb : Below w14.heap.size w14 wx) => (by
    have := dright_calls (hD14.below hb) (hL14.below hb) (fun r hr => by
      have : r = 0 ∨ r = 1 := by simp at hr; omega
      rcases this with rfl | rfl <;> exact ⟨by decide, by simp⟩)
    have e : rightB [P, Q] [0, 0] 2 = true := by
      rw [rightB_R]
      show rightR [P.rows, Q.rows] [0, 0] 2 = true
      rw [u4, s3]
      exact dk_right
    rw [show ([0, 0] : List Int).length = 2 from rfl, e] at this
    exact this : Calls Tryz.prog 13 #[.pointer (some ⟨d, 0, none⟩)] wx fun e w' => e = .returned (.bool true) ∧ Below wx.heap.size wx w'))
  have hr2 := Lib.hid (fun wx (hb : Below w14.heap.size w14 wx) => (show Calls Tryz.prog 13 #[.pointer (some ⟨d2, 0, none⟩)] wx fun e w' => e = .returned (.bool true) ∧ Below wx.heap.size wx w' from dright_calls (hDn'.below hb) (hLq.below hb) (fun r hr => by simp at hr)))
  have ht2 := Lib.hid (fun wx (hb : Below w14.heap.size w14 wx) => (by
    have := dtotal_calls (hDn'.below hb) (hLq.below hb)
    have e : dtK [Q] dkT 1 = 0 := by
      show 0 + totP Q.fl Q.rows dkT = 0
      rw [s2, s3, Int.zero_add]
      exact dk_tot
    rw [show ([Q] : List Pc).length = 1 from rfl, e] at this
    exact this : Calls Tryz.prog 19 #[.pointer (some ⟨d2, 0, none⟩)] wx fun e w' => e = .returned (.int .i64 0) ∧ Below wx.heap.size wx w'))
  have hb0 := Lib.hid (Below.refl w14.heap.size w14)
  clear hDn hb7 hL6' hD6 hb6 hD13 hb13' hL14 hD14 hDn' hLq u1 u4 u5 s1 s2 s3 s5 hne
  go_wp2_with fail
  refine (dsell_nil 0 0 _).mono ?_
  rintro e w15 ⟨rfl, hx⟩
  replace hb0 := Lib.hid (hb0.out.trans (hx.mono hb0.out.size))
  clear hx
  go_wp2_with fail
  refine (dnil_holder 0 _).mono ?_
  rintro e w16 ⟨rfl, rfl⟩
  go_wp2_with fail
  refine (dnil_owners _).mono ?_
  rintro e w16 ⟨rfl, rfl⟩
  go_wp2_with fail
  refine (dnil_total _).mono ?_
  rintro e w16 ⟨rfl, rfl⟩
  go_wp2_with fail
  refine (dnil_right _).mono ?_
  rintro e w16 ⟨rfl, rfl⟩
  go_wp2_with fail
  refine (works28_calls _).mono ?_
  rintro e w17 ⟨rfl, hx⟩
  replace hb0 := Lib.hid (hb0.out.trans (hx.mono hb0.out.size))
  have hh := Lib.hid (hh1.out w17 hb0.out)
  have hr := Lib.hid (hri.out w17 hb0.out)
  clear hx hh1 hri
  go_wp2_with fail
  refine hh.out.mono ?_
  rintro e w18 ⟨rfl, rfl⟩
  clear hh
  go_wp2_with fail
  refine hr.out.mono ?_
  clear hr
  rintro e w18 ⟨rfl, hx⟩
  replace hb0 := Lib.hid (hb0.out.trans (hx.mono hb0.out.size))
  have hr := Lib.hid (hr2.out w18 hb0.out)
  clear hx hr2
  go_wp2_with fail
  refine hr.out.mono ?_
  clear hr
  rintro e w19 ⟨rfl, hx⟩
  replace hb0 := Lib.hid (hb0.out.trans (hx.mono hb0.out.size))
  have hr := Lib.hid (ht2.out w19 hb0.out)
  clear hx ht2
  go_wp2_with fail
  refine hr.out.mono ?_
  clear hr
  rintro e w20 ⟨rfl, hx⟩
  have hbf := Lib.hid (hb14'.out.trans ((hb0.out.trans (hx.mono hb0.out.size)).mono hb14'.out.size))
  clear hx hb0 hb14'
  go_wp2_with fail
  go_ret
  exact ⟨rfl, hbf.out⟩
end Go.Proofs.YtkaoflndbcfodaaGreat
