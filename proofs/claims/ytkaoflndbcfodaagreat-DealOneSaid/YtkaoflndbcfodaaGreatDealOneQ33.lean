/-
  The row 'DealOne': a pack of the texts Do28, pruned to what the row uses.
-/
import Derived.Test.YtkaoflndbcfodaaGreatDealOneQ32
namespace Go.Proofs.YtkaoflndbcfodaaGreat
section
section
open Go.RowKit
section
variable {ρ : Operand → Value} {o : Oper} {w : World} {x y : Operand}
theorem run_ixP28 {a : Addr} {n c k : Nat} (ho : o.op = .indexAddr 65 x y) (hx : ρ x = .slice (some a) n c) (hy : ρ y = .int .i64 k) (hk : k < n) : (execOp ρ o).run Tryz.prog w = .ok (.value (.pointer (some (a.add (k * 2))))) w := by
 have h0 : (0 : Int) ≤ (k : Int) := by omega
 have h1 : (k : Int) < (n : Int) := by omega
 have h2 : ((k : Int)).toNat = k := by omega
 unfold execOp
 simp only [ho, hx, hy]
 go_simp
theorem run_ixQ0 {a : Addr} (ho : o.op = .indexAddr 66 x y) (hx : ρ x = .pointer (some a)) (hy : ρ y = .int .i64 0) : (execOp ρ o).run Tryz.prog w = .ok (.value (.pointer (some a))) w := by
 unfold execOp
 simp only [ho, hx, hy]
 go_simp
theorem run_ixQ1 {a : Addr} (ho : o.op = .indexAddr 66 x y) (hx : ρ x = .pointer (some a)) (hy : ρ y = .int .i64 1) : (execOp ρ o).run Tryz.prog w = .ok (.value (.pointer (some ⟨a.block, a.off + 1, none⟩))) w := by
 unfold execOp
 simp only [ho, hx, hy]
 go_simp
end
theorem BoR.st {w0 w : World} {B0 : Nat} {t : List Rq} {gB : Nat} {CB : Array Value} {L : List Pc} {d gP cP : Nat} {qK : Option Addr} {cK dd gR : Nat} {F : Nat → Prop} {fls : List (List Ve)} {Rs : List (List Rou2)} {H : List Int} {qF : Option Addr} {cF : Nat} {pf : List (Option Addr × Nat)} {cR : Nat} {pr : List (Option Addr × Nat)} {qss : List (List (Option Addr × Nat))} {qT : Option Addr} {cT : Nat} {qH : Option Addr} {cH : Nat}
  (h : BoR w B0 t gB CB L d gP cP qK cK dd gR F fls Rs H qF cF pf cR pr qss qT cT qH cH) (hb : Below w0.heap.size w0 w) (hB : w0.heap.size ≤ B0) : St28 w0 B0 t fls (L.map (·.b)) d gP cP qK cK gB H.length 0 L H w := by
 have hlt := h.blk.lt
 refine ⟨h.pcs, h.dl, h.holds.1, h.len, rfl, fun c hc => ?_, ?_, by rw [List.length_map]; exact h.len, ⟨hlt, h.lo.2.2.2.1, hB⟩, h.nB, fun a ha hH => ⟨h.loK a ha hH, fun e => ?_⟩, hb⟩
 ·obtain ⟨a1, a2, a3⟩ := h.eq c hc
  refine ⟨?_, a1, by omega⟩
  have hcL : c < L.length := by rw [h.len]; exact hc
  rw [List.getD_eq_getElem?_getD, List.getD_eq_getElem?_getD, List.getElem?_map, List.getElem?_eq_getElem hcL]
  rfl
 ·have := h.pls
  rw [List.map_map]
  exact this
 ·obtain ⟨g2, C2, e2, hB2⟩ := h.dl.hb hH
  rw [e2] at ha
  cases ha
  simp only at e
  subst e
  exact blk_ne28 h.blk hB2 (by decide)
def Do1 (w0 : World) (B : Nat) (t : List Rq) (fls : List (List Ve)) (bs : List Nat) (d gP cP : Nat) (qK : Option Addr) (cK gB Hn T : Nat) (s : Value) (wx : World) : Prop :=
 ∃ (i : Nat) (L : List Pc) (H : List Int), i ≤ T ∧ i ≤ 20 ∧ s = .int .i64 (i : Int) ∧ St28 w0 B t fls bs d gP cP qK cK gB Hn i L H wx
def Do2 (w0 : World) (tot : Nat → Int) (Ln : Nat) (s15 s16 : Value) (wx : World) : Prop :=
 ∃ k : Nat, k ≤ Ln ∧ s16 = .int .i64 (k : Int) ∧ wx.ownsRow w0.heap.size 3 1 s15 k (((List.range k).map tot).map inV).flatten ∧ Below w0.heap.size w0 wx
def Do3 (w0 : World) (n : Nat) (s : Value) (wx : World) : Prop := ∃ k : Nat, k ≤ n ∧ s = .int .i64 (k : Int) ∧ Below w0.heap.size w0 wx
set_option maxHeartbeats 8000000 in
set_option maxRecDepth 100000 in
theorem DealOne_walk (p pw : Option Addr) (cp cw : Nat) (B W : List Int) (n wd k nn : Int) (pL : Option Addr) (cL : Nat) (l : List (Int × Int)) (w : World) (hA : DrA w p B n wd) (hW : DrA w pw W 0 0) (hnn : 0 ≤ nn ∧ nn < 256) (hE : Els w pL 2 ((l.take 20).map (prV .u8))) (_hbl : l.length ≤ 9223372036854775807) (hrg : ∀ s ∈ l, (0 ≤ s.1 ∧ s.1 < 256) ∧ (0 ≤ s.2 ∧ s.2 < 256)) :
  Calls Tryz.prog 6 #[.agg (ddC p cp B n wd k pw W cw nn), .slice pL l.length cL] w fun e w' => e = .returned (.bool true) ∧ Below w.heap.size w w' := by
 have hbo := Lib.hid (fun wx (hb : Below w.heap.size w wx) => both_calls p pw cp cw B W n wd k nn wx (hA.below hb) (hW.below hb) hnn)
 obtain ⟨C, hC⟩ : ∃ C, ddC p cp B n wd k pw W cw nn = C := ⟨_, rfl⟩
 have hc6 : C.size = 6 := by rw [← hC]; rfl
 rw [hC] at hbo ⊢
 replace hE := Lib.hid hE
 replace hrg := Lib.hid hrg
 clear hA hW hnn hC
 go_enter Tryz.func6, Tryz.ntmps6
 go_upto_region 1 with fail
 refine wp_world' (fun wx => Blk wx w.heap.size C 26 ∧ Below w.heap.size w wx) ⟨Blk.new _ _ _, new_below _ _⟩ ?_
 rintro w1 ⟨hB, hb⟩
 go_wp2_with fail
 refine (works28_calls w1).mono ?_
 rintro e w2 ⟨rfl, hb2⟩
 have hm2 := (Mod.refl (fun _ => False) _).after hb2
 have hB2 := hB.mod hm2 (fun h => h)
 replace hb2 := hb.trans (hb2.mono hb.size)
 have hl1 := Lib.hid (run_load_row' (P := Tryz.prog) w2 w.heap.size 26 C 26 _ hB2 Tryz.underlying26 rfl (by rw [hc6]; kernel_rfl))
 have hd1 := hbo.out w2 hb2
 clear hB hb hB2 hbo hm2
 go_wp2_with (refine wpList_load_v rfl 26 _ rfl ⟨w.heap.size, 0, none⟩ rfl _ hl1.out ?_)
 refine hd1.mono ?_
 clear hd1 hl1
 rintro e w3 ⟨hb3, B0, t, gB, cB, CB, L, d, gP, cP, qK, cK, dd, gR, F, fls, Rs, H, qF, cF, pf, cR, pr, qss, qT, cT, qH, cH, hB0, rfl, hR⟩
 have hbw := hb2.trans (hb3.mono hb2.size)
 have hB0w : w.heap.size ≤ B0 := Nat.le_trans hb2.size hB0
 have hS0 := Lib.hid (hR.st hbw hB0w)
 have hn4 := hR.ok.many
 have hH8 := hR.ok.hl
 rw [hR.len]
 have hl3 := Lib.hid (run_cI28 (hR.rd.box.cell (i := 3) rfl))
 obtain ⟨bs, hbs⟩ : ∃ bs, L.map (·.b) = bs := ⟨_, rfl⟩
 rw [hbs] at hS0
 clear hR hb2 hb3 hbw hbs
 obtain ⟨Ln, hLn⟩ : ∃ Ln, fls.length = Ln := ⟨_, rfl⟩
 rw [hLn] at hn4 ⊢
 obtain ⟨Hn, hHn⟩ : ∃ Hn, H.length = Hn := ⟨_, rfl⟩
 rw [hHn] at hH8 hl3 hS0
 obtain ⟨T, hT⟩ : ∃ T, l.length = T := ⟨_, rfl⟩
 rw [hT]
 replace hLn := Lib.hid hLn
 replace hT := Lib.hid hT
 clear hHn
 go_wp2_with (refine wpList_load_v rfl 35 _ rfl ⟨dd, 3, none⟩ rfl _ hl3.out ?_)
 go_loopw [10] (Do1 w B0 t fls bs d gP cP qK cK gB Hn T) (fun s10 _ => T - (intOf s10).toNat)
 case atStart => exact ⟨0, L, H, Nat.zero_le _, by omega, rfl, hS0.out⟩
 case round =>
  clear hS0 hl3
  clear L H
  obtain ⟨i, L, H, hi, hi20, rfl, hS⟩ := hrel
  by_cases hlt : i < T ∧ i < 20 ∧ 0 < Hn
  ·have hiT : (i : Int) < (T : Int) := by omega
   have hi2 : (i : Int) < 20 := by omega
   have hi0 : (0 : Int) ≤ (i : Int) := by omega
   have s1 : IntKind.i64.wrap ((i : Int) + 1) = (i : Int) + 1 := IntWalk.i64_in _ (by omega)
   have hm0 : (0 : Int) < (Hn : Int) := by omega
   have hmb : (Hn : Int) ≤ 9223372036854775807 := by omega
   have hL0 : (0 : Int) < (Ln : Int) := by omega
   have hLb : (Ln : Int) ≤ 9223372036854775807 := by omega
   have hil : i < l.length := by rw [hT.out]; exact hlt.1
   obtain ⟨a, rfl⟩ := (hE.out.below hS.lo).some_of (k := i) (by simp; omega)
   have c0 := (hE.out.below hS.lo).cells a rfl i (prV .u8 l[i]) 0 (.int .u8 l[i].1) (by rw [List.getElem?_map, List.getElem?_take_of_lt hlt.2.1, List.getElem?_eq_getElem hil]; rfl) rfl
   have c1 := (hE.out.below hS.lo).cells a rfl i (prV .u8 l[i]) 1 (.int .u8 l[i].2) (by rw [List.getElem?_map, List.getElem?_take_of_lt hlt.2.1, List.getElem?_eq_getElem hil]; rfl) rfl
   rw [Nat.add_zero] at c0
   rw [← addr_add_add, addr_one] at c1
   have hrg2 := hrg.out _ (List.getElem_mem hil)
   obtain ⟨a0, a1, hxy⟩ : ∃ x y, l[i] = (x, y) := ⟨_, _, rfl⟩
   rw [hxy] at c0 c1 hrg2
   dsimp only at c0 c1 hrg2
   clear hxy
   obtain ⟨h0, h1⟩ := hrg2
   obtain ⟨r, hrE⟩ : ∃ r : Nat, (r : Int) = a0 % (Hn : Int) := ⟨(a0 % (Hn : Int)).toNat, by have := Int.emod_nonneg a0 (show (Hn : Int) ≠ 0 by omega); omega⟩
   have hrH : r < Hn := by have := Int.emod_lt_of_pos a0 hm0; omega
   obtain ⟨c, hcE⟩ : ∃ c : Nat, (c : Int) = a1 % (Ln : Int) := ⟨(a1 % (Ln : Int)).toNat, by have := Int.emod_nonneg a1 (show (Ln : Int) ≠ 0 by omega); omega⟩
   have hcL : c < Ln := by have := Int.emod_lt_of_pos a1 hL0; omega
   have hcF : c < fls.length := by rw [hLn.out]; exact hcL
   obtain ⟨f, hfF, hf⟩ := hS.fine hrH
   have hfL : f < Ln := by rw [← hLn.out]; exact hfF
   replace hrE := Lib.hid hrE
   replace hcE := Lib.hid hcE
   have hc0 := Lib.hid (fun wx (hm : Mod (fun _ => False) wr wx) => run_u8A (hm.cell_of (fun h => h) c0))
   have hc1 := Lib.hid (fun wx (hm : Mod (fun _ => False) wr wx) => run_u8A (hm.cell_of (fun h => h) c1))
   replace hS := Lib.hid hS
   replace hcF := Lib.hid hcF
   replace hfF := Lib.hid hfF
   clear c0 c1 hil
   go_upto_region 10 with fail
   refine wp_region_later (w0 := wr) (S := fun _ => False) (Mod.refl _ _) (by kernel_rfl) (by kernel_rfl) ?_
   iterate 2 (go_big_quiet_step (fail))
   refine wpQuiet_v rfl (.pointer (some (a.add (i * 2)))) (by rintro _ ⟨z, rfl⟩; exact run_ixP28 rfl rfl rfl hlt.1) ?_
   simp only [Act.put, List.setIfInBounds_toArray, List.set_cons_succ, List.set_cons_zero]
   refine wpQuiet_v rfl (.pointer (some (a.add (i * 2)))) (by rintro _ ⟨z, rfl⟩; exact run_ixQ0 rfl rfl rfl) ?_
   simp only [Act.put, List.setIfInBounds_toArray, List.set_cons_succ, List.set_cons_zero]
   refine wpQuiet_v rfl (.int .u8 a0) (by rintro _ ⟨z, rfl⟩; exact run_load_v rfl rfl (hc0.out _ z.mod)) ?_
   simp only [Act.put, List.setIfInBounds_toArray, List.set_cons_succ, List.set_cons_zero]
   refine wpQuiet_v rfl (.int .i64 a0) (by rintro _ ⟨z, rfl⟩; exact run_cvA rfl rfl h0) ?_
   simp only [Act.put, List.setIfInBounds_toArray, List.set_cons_succ, List.set_cons_zero]
   iterate 1 (go_big_quiet_step (fail))
   refine wpQuiet_v rfl (.int .i64 (r : Int)) (by rintro _ ⟨z, rfl⟩; exact run_remD rfl rfl rfl h0.1 hm0 hrE.out hmb) ?_
   simp only [Act.put, List.setIfInBounds_toArray, List.set_cons_succ, List.set_cons_zero]
   iterate 2 (go_big_quiet_step (fail))
   refine wpQuiet_v rfl (.pointer (some (a.add (i * 2)))) (by rintro _ ⟨z, rfl⟩; exact run_ixP28 rfl rfl rfl hlt.1) ?_
   simp only [Act.put, List.setIfInBounds_toArray, List.set_cons_succ, List.set_cons_zero]
   refine wpQuiet_v rfl (.pointer (some ⟨(a.add (i * 2)).block, (a.add (i * 2)).off + 1, none⟩)) (by rintro _ ⟨z, rfl⟩; exact run_ixQ1 rfl rfl rfl) ?_
   simp only [Act.put, List.setIfInBounds_toArray, List.set_cons_succ, List.set_cons_zero]
   refine wpQuiet_v rfl (.int .u8 a1) (by rintro _ ⟨z, rfl⟩; exact run_load_v rfl rfl (hc1.out _ z.mod)) ?_
   simp only [Act.put, List.setIfInBounds_toArray, List.set_cons_succ, List.set_cons_zero]
   refine wpQuiet_v rfl (.int .i64 a1) (by rintro _ ⟨z, rfl⟩; exact run_cvA rfl rfl h1) ?_
   simp only [Act.put, List.setIfInBounds_toArray, List.set_cons_succ, List.set_cons_zero]
   iterate 2 (go_big_quiet_step (fail))
   refine wpQuiet_v rfl (.int .i64 (c : Int)) (by rintro _ ⟨z, rfl⟩; exact run_remD rfl rfl rfl h1.1 hL0 hcE.out hLb) ?_
   simp only [Act.put, List.setIfInBounds_toArray, List.set_cons_succ, List.set_cons_zero]
   iterate 2 (go_big_quiet_step (fail))
   refine wpQuiet_nil ?_
   rintro _ ⟨z, rfl⟩
   have hz4 := Lib.hid z.mod
   generalize z.val = w4 at *
   have hS4 := hS.out.below (hz4.out.below (Nat.le_refl _) (fun _ h => h.elim))
   have hhd := hS4.holder hrH
   rw [hf] at hhd
   replace hhd := Lib.hid hhd
   have hcl := hS4.cell hcF.out
   have hbd := hS4.bid hcF.out hrH
   obtain ⟨u, hu⟩ : ∃ u, bid28 t L c r = u := ⟨_, rfl⟩
   rw [hu] at hbd
   obtain ⟨bc, hbc⟩ : ∃ bc, bs.getD c 0 = bc := ⟨_, rfl⟩
   rw [hbc] at hcl hbd
   replace hcl := Lib.hid hcl
   replace hbd := Lib.hid hbd
   replace hS4 := Lib.hid hS4
   replace hf := Lib.hid hf
   replace hu := Lib.hid hu
   clear hS hz4 hc0 hc1 hbc
   go_wp2_with fail
   refine hhd.out.mono ?_
   clear hhd
   rintro e w5 ⟨rfl, rfl⟩
   go_wp2_with (first | (refine wpList_v rfl (.pointer (some ((⟨gB, 0, none⟩ : Addr).add c))) (run_ixPl (k := c) rfl rfl rfl hcL) ?_) | (refine wpList_load_v rfl 42 _ rfl ((⟨gB, 0, none⟩ : Addr).add c) rfl _ hcl.out ?_))
   refine hbd.out.mono ?_
   clear hbd hcl
   rintro e w5 ⟨rfl, hb5⟩
   have hS5 := Lib.hid (hS4.out.below hb5)
   clear hS4 hb5
   obtain ⟨tot, htot⟩ : ∃ tot : Nat → Int, tot = tot28 t L := ⟨_, rfl⟩
   replace htot := Lib.hid htot
   go_wp2_with fail
   go_loopw [15, 16] (Do2 w5 tot Ln) (fun _ s16 _ => Ln - (intOf s16).toNat)
   case atStart => exact ⟨0, Nat.zero_le _, rfl, World.ownsRow_nil _ _ _ _, Below.refl _ _⟩
   case round =>
    obtain ⟨k, hk, rfl, hO, hb⟩ := hrel
    by_cases hkl : k < Ln
    ·have hkI : (k : Int) < (Ln : Int) := by omega
     have s2 : IntKind.i64.wrap ((k : Int) + 1) = (k : Int) + 1 := IntWalk.i64_in _ (by omega)
     have hkF : k < fls.length := by rw [hLn.out]; exact hkl
     have hS6 := hS5.out.below hb
     have hcl := hS6.cell hkF
     have htc := hS6.total hkF
     rw [← htot.out] at htc
     obtain ⟨bk, hbk⟩ : ∃ bk, bs.getD k 0 = bk := ⟨_, rfl⟩
     rw [hbk] at hcl htc
     replace hcl := Lib.hid hcl
     replace htc := Lib.hid htc
     obtain ⟨q7, m7, c7, rfl⟩ := own_isS hO
     replace hO := Lib.hid hO
     replace hb := Lib.hid hb
     clear hS6 hbk hkF
     go_wp2_with (first | (refine wpList_v rfl (.pointer (some ((⟨gB, 0, none⟩ : Addr).add k))) (run_ixPl (k := k) rfl rfl rfl hkl) ?_) | (refine wpList_load_v rfl 42 _ rfl ((⟨gB, 0, none⟩ : Addr).add k) rfl _ hcl.out ?_))
     refine htc.out.mono ?_
     clear htc hcl
     rintro e w6 ⟨rfl, hb6⟩
     have hb56 := hb.out.trans (hb6.mono hb.out.size)
     have hO6 := own_mod hO.out ((Mod.refl (fun _ => False) _).after hb6) (fun _ _ h => h)
     have hOA := Lib.hid (own_mod hO6 ((Mod.refl (fun _ => False) _).alloc (.cells (inV (tot k)).toArray 3)) (fun _ _ h => h))
     have hbA := Lib.hid (hb56.alloc hb56.size (.cells (inV (tot k)).toArray 3))
     have hzA := Lib.hid hbA.out.size
     clear hO hb hb6 hO6 hb56
     go_wp2_with (first | (refine wpList_bs1 rfl 35 1 0 _ rfl (.int .i64 (tot k)) rfl _ _ (rsl_in _ _) ?_) |
      (refine wpList_appG in_el rfl _ _ rfl w5.heap.size hzA.out _ k _ rfl hOA.out (by omega) ⟨w6.heap.size, 0, none⟩ 1 1 (inV (tot k)) rfl rfl (by omega) (row_cells (Blk.new w6 _ _)) (in_one _) ?_; intro v7 w7 hO7 hg7))
     have hb7 := Lib.hid (grown_low hbA.out (Nat.le_refl _) (Nat.le_refl _) hOA.out hg7)
     replace hO7 := Lib.hid hO7
     clear hg7 hOA hbA hzA
     go_roundw
     case rel =>
      refine ⟨k + 1, by omega, by simp, ?_, hb7.out⟩
      rw [List.range_succ, List.map_append, List.map_append, List.flatten_append]
      simpa using hO7.out
     case measure => simp [intOf]; omega
    ·obtain rfl : Ln = k := by omega
     obtain ⟨q, m, cb, rfl⟩ := own_isS hO
     have hEl := own_els (R := ((List.range Ln).map tot).map inV) (inV_len _) (by simpa using hO) (by simp; omega)
     simp only [List.length_map, List.length_range] at hEl
     obtain ⟨hE6, hmL, _, h4⟩ := hEl
     obtain rfl : Ln = m := hmL.symm
     have hqb : Hid (∀ a, q = some a → w5.heap.size ≤ a.block) := Lib.hid (fun a ha => (h4 a ha).1)
     have hS6 := hS5.out.below hb
     have hsell := Lib.hid (hS6.sell (by omega) hS5.out.und hrH hcF.out hfF.out hf.out)
     replace hE6 := Lib.hid hE6
     clear hS6 hO hb h4 hmL
     go_wp2_with fail
     refine hsell.out.mono ?_
     clear hsell
     rintro e w7 ⟨y, z, L', H', rfl, hS7, hz, hzb, hyb, hH', htt, hm7⟩
     rw [hu.out] at hz hzb
     have hE7 := els_modP hE6.out hm7 (fun a ha _ hk => by
      have h8 : a.block < w5.heap.size := hk
      have := hqb.out a ha
      omega)
     have hlenR : ((List.range Ln).map tot).length = Ln := by simp
     have htn := Lib.hid (fun j (hj : j < Ln) => (by rw [htot.out]; exact htt j (by rw [hLn.out]; exact hj) : (j = c → tot28 t L' j = tot j + y) ∧ (j = f → tot28 t L' j ≤ tot j) ∧ (j ≠ c → j ≠ f → tot28 t L' j = tot j)))
     have hbd7 := Lib.hid (fun j (hj : j < Ln) => (by rw [htot.out]; exact tot28_bd hS5.out (by rw [hLn.out]; exact hj) : 0 ≤ tot j ∧ tot j ≤ 1000000000))
     obtain ⟨aq, rfl⟩ : ∃ aq, q = some aq := hE7.some_of (k := c) (by simp; omega)
     have hcb := Lib.hid (fun wx (hb : Below w7.heap.size w7 wx) j (hj : j < Ln) => (by
      have := (hE7.below hb).cells aq rfl j (inV (tot j)) 0 (.int .i64 (tot j)) (by rw [List.getElem?_map, List.getElem?_map, List.getElem?_range hj]; rfl) rfl
      rw [Nat.add_zero, Nat.mul_one] at this
      exact run_i64 this : (loadVar 3 (aq.add j)).run Tryz.prog wx = .ok (.int .i64 (tot j)) wx))
     replace hH' := Lib.hid hH'
     replace hS7 := Lib.hid hS7
     clear hE6 hE7 hqb htt hm7 hlenR
     go_upto_region 19 with fail
     go_cut [118] from 38 to 210 (fun s118 wx => s118 = .bool false ∧ wx = w7)
     case first =>
      by_cases hz0 : z = 0
      ·obtain ⟨g1, g2⟩ := hz.1 hz0
       have g3 := hzb hz0
       have s3 : IntKind.u64.wrap y = y := IntWalk.u64_in _ (by omega)
       have d1 : (z == 0) = true := beq_iff_eq.2 hz0
       have d2 : ((f : Int) == (c : Int)) = false := beq_eq_false_iff_ne.2 (by omega)
       have d3 : ((f : Int) != (c : Int)) = true := by rw [bne, d2]; rfl
       have d4 : (u == 4294967296) = false := beq_eq_false_iff_ne.2 g2
       have d5 : (u != 4294967296) = true := by rw [bne, d4]; rfl
       have d6 : (y == u) = true := beq_iff_eq.2 g3.symm
       have d7 : (y != u) = false := by rw [bne, d6]; rfl
       clear hz hzb g1 g2 g3 hz0
       go_wp2_with fail
       go_meet
       exact ⟨rfl, rfl⟩
      ·have d1 : (z == 0) = false := beq_eq_false_iff_ne.2 hz0
       by_cases hfc : f = c
       ·have d2 : ((f : Int) == (c : Int)) = true := beq_iff_eq.2 (by omega)
        have d3 : ((f : Int) != (c : Int)) = false := by rw [bne, d2]; rfl
        clear hz hzb hz0 hfc
        go_wp2_with fail
        go_meet
        exact ⟨rfl, rfl⟩
       ·have d2 : ((f : Int) == (c : Int)) = false := beq_eq_false_iff_ne.2 (by omega)
        have d3 : ((f : Int) != (c : Int)) = true := by rw [bne, d2]; rfl
        have d4 : (u == 4294967296) = true := beq_iff_eq.2 (by
         by_cases h9 : u = 4294967296
         ·exact h9
         ·exact absurd (hz.2 ⟨hfc, h9⟩) hz0)
        have d5 : (u != 4294967296) = false := by rw [bne, d4]; rfl
        clear hz hzb hz0 hfc
        go_wp2_with fail
        go_meet
        exact ⟨rfl, rfl⟩
     case rest =>
     obtain ⟨rfl, hwc⟩ := hcut
     rw [hwc]
     clear hwc
     go_wp2_with fail
     go_loopw [19] (Do3 w7 Ln) (fun s19 _ => Ln - (intOf s19).toNat)
     case atStart => exact ⟨0, Nat.zero_le _, rfl, Below.refl _ _⟩
     case round =>
      obtain ⟨j, hj, rfl, hb⟩ := hrel
      by_cases hjl : j < Ln
      ·have hjI : (j : Int) < (Ln : Int) := by omega
       have s2 : IntKind.i64.wrap ((j : Int) + 1) = (j : Int) + 1 := IntWalk.i64_in _ (by omega)
       have hjF : j < fls.length := by rw [hLn.out]; exact hjl
       have hS8 := hS7.out.below hb
       have hcl := hS8.cell hjF
       have htc := hS8.total hjF
       obtain ⟨bk, hbk⟩ : ∃ bk, bs.getD j 0 = bk := ⟨_, rfl⟩
       rw [hbk] at hcl htc
       obtain ⟨v, hv⟩ : ∃ v, tot28 t L' j = v := ⟨_, rfl⟩
       rw [hv] at htc
       obtain ⟨t1, t2, t3⟩ := htn.out j hjl
       rw [hv] at t1 t2 t3
       have hbj := hbd7.out j hjl
       replace hcl := Lib.hid hcl
       replace htc := Lib.hid htc
       replace hb := Lib.hid hb
       replace hbk := Lib.hid hbk
       clear hS8 hv
       go_wp2_with (first | (refine wpList_v rfl (.pointer (some ((⟨gB, 0, none⟩ : Addr).add j))) (run_ixPl (k := j) rfl rfl rfl hjl) ?_) | (refine wpList_load_v rfl 42 _ rfl ((⟨gB, 0, none⟩ : Addr).add j) rfl _ hcl.out ?_))
       refine htc.out.mono ?_
       clear htc hcl
       rintro e w8 ⟨rfl, hb8⟩
       have hb78 := hb.out.trans (hb8.mono hb.out.size)
       have hlj := Lib.hid (hcb.out w8 hb78 j hjl)
       replace hb78 := Lib.hid hb78
       clear hb hb8
       go_upto_region 25 with fail
       go_cut [173] from 119 to 190 (fun s wx => s = .bool false ∧ wx = w8)
       case first =>
        have e4 : IntKind.i64.wrap (tot j + y) = tot j + y := IntWalk.i64_in _ (by omega)
        by_cases jc : j = c
        ·have t1 := t1 jc
         have e1 : ((j : Int) == (c : Int)) = true := beq_iff_eq.2 (by omega)
         have e1' : ((j : Int) != (c : Int)) = false := by rw [bne, e1]; rfl
         have e5 : (v == tot j + y) = true := beq_iff_eq.2 t1
         have e5' : (v != tot j + y) = false := by rw [bne, e5]; rfl
         by_cases jf : j = f
         ·have t2 := t2 jf
          have e2 : ((j : Int) == (f : Int)) = true := beq_iff_eq.2 (by omega)
          have e2' : ((j : Int) != (f : Int)) = false := by rw [bne, e2]; rfl
          have e6 : ¬ tot j < v := by omega
          clear t1 t2 t3 jc jf
          go_wp2_with (first | (refine wpList_v rfl (.pointer (some (aq.add j))) (run_ixIn (k := j) rfl rfl rfl hjl) ?_) | (refine wpList_load_v rfl 3 _ rfl (aq.add j) rfl _ hlj.out ?_))
          go_meet
          exact ⟨rfl, rfl⟩
         ·have e2 : ((j : Int) == (f : Int)) = false := beq_eq_false_iff_ne.2 (by omega)
          have e2' : ((j : Int) != (f : Int)) = true := by rw [bne, e2]; rfl
          clear t1 t2 t3 jc jf
          go_wp2_with (first | (refine wpList_v rfl (.pointer (some (aq.add j))) (run_ixIn (k := j) rfl rfl rfl hjl) ?_) | (refine wpList_load_v rfl 3 _ rfl (aq.add j) rfl _ hlj.out ?_))
          go_meet
          exact ⟨rfl, rfl⟩
        ·have e1 : ((j : Int) == (c : Int)) = false := beq_eq_false_iff_ne.2 (by omega)
         have e1' : ((j : Int) != (c : Int)) = true := by rw [bne, e1]; rfl
         by_cases jf : j = f
         ·have t2 := t2 jf
          have e2 : ((j : Int) == (f : Int)) = true := beq_iff_eq.2 (by omega)
          have e2' : ((j : Int) != (f : Int)) = false := by rw [bne, e2]; rfl
          have e6 : ¬ tot j < v := by omega
          clear t1 t2 t3 jc jf
          go_wp2_with (first | (refine wpList_v rfl (.pointer (some (aq.add j))) (run_ixIn (k := j) rfl rfl rfl hjl) ?_) | (refine wpList_load_v rfl 3 _ rfl (aq.add j) rfl _ hlj.out ?_))
          go_meet
          exact ⟨rfl, rfl⟩
         ·have t3 := t3 jc jf
          have e2 : ((j : Int) == (f : Int)) = false := beq_eq_false_iff_ne.2 (by omega)
          have e2' : ((j : Int) != (f : Int)) = true := by rw [bne, e2]; rfl
          have e5 : (v == tot j) = true := beq_iff_eq.2 t3
          have e5' : (v != tot j) = false := by rw [bne, e5]; rfl
          clear t1 t2 t3 jc jf
          go_wp2_with (first | (refine wpList_v rfl (.pointer (some (aq.add j))) (run_ixIn (k := j) rfl rfl rfl hjl) ?_) | (refine wpList_load_v rfl 3 _ rfl (aq.add j) rfl _ hlj.out ?_))
          go_meet
          exact ⟨rfl, rfl⟩
       case rest =>
       obtain ⟨rfl, hwc⟩ := hcut
       rw [hwc]
       clear hwc t1 t2 t3 hlj
       go_wp2_with fail
       go_loopw [21] (Do3 w8 Hn) (fun s21 _ => Hn - (intOf s21).toNat)
       case atStart => exact ⟨0, Nat.zero_le _, rfl, Below.refl _ _⟩
       case round =>
        obtain ⟨m, hm, rfl, hb⟩ := hrel
        by_cases hml : m < Hn
        ·have hmI : (m : Int) < (Hn : Int) := by omega
         have s3 : IntKind.i64.wrap ((m : Int) + 1) = (m : Int) + 1 := IntWalk.i64_in _ (by omega)
         have hS9 := (hS7.out.below hb78.out).below hb
         obtain ⟨f2, _, hf2⟩ := hS9.fine hml
         have hh := hS9.has hjF hml
         have hd := hS9.holder hml
         have hcl := hS9.cell hjF
         rw [hbk.out] at hh hcl
         rw [hf2] at hh hd
         obtain ⟨g, hg⟩ : ∃ g, decide ((j : Int) = (f2 : Int)) = g := ⟨_, rfl⟩
         have dg : ((f2 : Int) == (j : Int)) = g := by
          rw [← hg]
          by_cases e : (j : Int) = (f2 : Int)
          ·rw [decide_eq_true e, beq_iff_eq.2 e.symm]
          ·rw [decide_eq_false e, beq_eq_false_iff_ne.2 (fun e2 => e e2.symm)]
         rw [hg] at hh
         replace hh := Lib.hid hh
         replace hd := Lib.hid hd
         replace hcl := Lib.hid hcl
         replace hb := Lib.hid hb
         clear hg hf2 hS9
         go_wp2_with (first | (refine wpList_v rfl (.pointer (some ((⟨gB, 0, none⟩ : Addr).add j))) (run_ixPl (k := j) rfl rfl rfl hjl) ?_) | (refine wpList_load_v rfl 42 _ rfl ((⟨gB, 0, none⟩ : Addr).add j) rfl _ hcl.out ?_))
         refine hh.out.mono ?_
         clear hh hcl
         rintro e w9 ⟨rfl, rfl⟩
         go_wp2_with fail
         refine hd.out.mono ?_
         clear hd
         rintro e w9 ⟨rfl, rfl⟩
         cases g
         ·go_wp2_with fail
          go_roundw
          case rel => exact ⟨m + 1, by omega, by simp, hb.out⟩
          case measure => simp [intOf]; omega
         ·go_wp2_with fail
          go_roundw
          case rel => exact ⟨m + 1, by omega, by simp, hb.out⟩
          case measure => simp [intOf]; omega
        ·obtain rfl : Hn = m := by omega
         have hb9 := Lib.hid (hb78.out.trans (hb.mono hb78.out.size))
         clear hb
         go_wp2_with fail
         go_roundw
         case rel => exact ⟨j + 1, by omega, by simp, hb9.out⟩
         case measure => simp [intOf]; omega
      ·obtain rfl : Ln = j := by omega
       have hS8 := hS7.out.below hb
       have hd := hS8.holder hrH
       replace hS8 := Lib.hid hS8
       clear hb
       by_cases hz0 : z = 0
       ·have d1 : (z == 0) = true := beq_iff_eq.2 hz0
        have d1' : (z != 0) = false := by rw [bne, d1]; rfl
        have hgr : H'.getD r 0 = (c : Int) := by
         have hrl : r < H.length := by rw [hS5.out.hl]; exact hrH
         rw [hH'.out, if_pos hz0, List.getD_eq_getElem?_getD, List.getElem?_set, if_pos rfl, if_pos hrl]
         rfl
        rw [hgr] at hd
        replace hd := Lib.hid hd
        clear hgr hz hzb hz0
        go_wp2_with fail
        refine hd.out.mono ?_
        clear hd
        rintro e w9 ⟨rfl, rfl⟩
        go_wp2_with fail
        go_roundw
        case rel => exact ⟨i + 1, L', H', by omega, by omega, by simp, hS8.out⟩
        case measure => simp [intOf]; omega
       ·have d1 : (z == 0) = false := beq_eq_false_iff_ne.2 hz0
        have d1' : (z != 0) = true := by rw [bne, d1]; rfl
        rw [hH'.out, if_neg hz0, hf.out] at hd
        replace hd := Lib.hid hd
        clear hz hzb hz0
        go_wp2_with fail
        refine hd.out.mono ?_
        clear hd
        rintro e w9 ⟨rfl, rfl⟩
        go_wp2_with fail
        go_roundw
        case rel => exact ⟨i + 1, L', H', by omega, by omega, by simp, hS8.out⟩
        case measure => simp [intOf]; omega
  ·have hri := Lib.hid hS.right
   have hlo := Lib.hid hS.lo
   clear hS
   by_cases hl : i < T
   ·have hiT : (i : Int) < (T : Int) := by omega
    by_cases h2 : i < 20
    ·have hi2 : (i : Int) < 20 := by omega
     obtain rfl : Hn = 0 := by omega
     go_wp2_with fail
     refine hri.out.mono ?_
     rintro e w9 ⟨rfl, hb9⟩
     have hlo9 := Lib.hid (hlo.out.trans (hb9.mono hlo.out.size))
     clear hri hlo hb9
     go_wp2_with fail
     go_ret
     exact ⟨rfl, hlo9.out⟩
    ·obtain rfl : i = 20 := by omega
     have hiT : (20 : Int) < (T : Int) := by omega
     go_wp2_with fail
     refine hri.out.mono ?_
     rintro e w9 ⟨rfl, hb9⟩
     have hlo9 := Lib.hid (hlo.out.trans (hb9.mono hlo.out.size))
     clear hri hlo hb9
     go_wp2_with fail
     go_ret
     exact ⟨rfl, hlo9.out⟩
   ·obtain rfl : T = i := by omega
    go_wp2_with fail
    refine hri.out.mono ?_
    rintro e w9 ⟨rfl, hb9⟩
    have hlo9 := Lib.hid (hlo.out.trans (hb9.mono hlo.out.size))
    clear hri hlo hb9
    go_wp2_with fail
    go_ret
    exact ⟨rfl, hlo9.out⟩
end
end
end Go.Proofs.YtkaoflndbcfodaaGreat
