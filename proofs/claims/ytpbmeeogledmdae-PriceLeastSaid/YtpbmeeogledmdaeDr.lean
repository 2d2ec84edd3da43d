/-
  Drafts (layer 7): the numbers that come, places.
-/
import Derived.Test.YtpbmeeogledmdaeTmT
import Derived.Test.YtpbmeeogledmdaeOpn
import Derived.Test.YtpbmeeogledmdaeWi
namespace Go.Proofs.Ytpbmeeogledmdae
open Go.RowKit

def u8V (b : Int) : List Value := [.int .u8 b]
/-- the number that comes, at a place, below a bound -/
def nx (B : List Int) (k m : Int) : Int := if B = [] then k % m else (B.getD (k % (B.length : Int)).toNat 0 + k / (B.length : Int)) % m
theorem nx_bd (B : List Int) (k : Int) {m : Int} (hm : 0 < m) : 0 ≤ nx B k m ∧ nx B k m < m := by
  unfold nx
  split
  · exact ⟨Int.emod_nonneg _ (by omega), Int.emod_lt_of_pos _ hm⟩
  · exact ⟨Int.emod_nonneg _ (by omega), Int.emod_lt_of_pos _ hm⟩
def drC (p : Option Addr) (c : Nat) (B : List Int) (n wd k : Int) : Array Value := #[.slice p B.length c, .int .u8 n, .int .u8 wd, .int .i64 k]
structure DrS (w : World) (g : Nat) (p : Option Addr) (c : Nat) (B : List Int) (n wd k : Int) : Prop where
  blk : Blk w g (drC p c B n wd k) 24
  els : ∀ i b, B[i]? = some b → ∃ a, p = some a ∧ a.block ≠ g ∧ w.cell? (a.add i) = some (.int .u8 b)
  rng : ∀ b ∈ B, 0 ≤ b ∧ b < 256
  len : B.length ≤ 9223372036854775807
  nb : 0 ≤ n ∧ n < 256
  wb : 0 ≤ wd ∧ wd < 256
theorem DrS.mod {w w' : World} {g : Nat} {p : Option Addr} {c : Nat} {B : List Int} {n wd k : Int} (h : DrS w g p c B n wd k) (hm : Mod (fun _ => False) w w') : DrS w' g p c B n wd k :=
  ⟨h.blk.mod hm (fun h => h), fun i b hb => by
    obtain ⟨a, ha, hg, hc⟩ := h.els i b hb
    exact ⟨a, ha, hg, hm.cell_of (fun h => h) hc⟩, h.rng, h.len, h.nb, h.wb⟩
theorem DrS.put {w : World} {g : Nat} {p : Option Addr} {c : Nat} {B : List Int} {n wd k : Int} (h : DrS w g p c B n wd k) (k' : Int) : DrS (w.setCell ⟨g, 3, none⟩ (.int .i64 k')) g p c B n wd k' :=
  ⟨h.blk.set 3 _, fun i b hb => by
    obtain ⟨a, ha, hg, hc⟩ := h.els i b hb
    exact ⟨a, ha, hg, ((Mod.refl (· = g) _).setCell (p := ⟨g, 3, none⟩) (fun _ => rfl) _).cell_of (by rw [add_block]; exact hg) hc⟩, h.rng, h.len, h.nb, h.wb⟩
theorem DrS.of {w w' : World} {g : Nat} {p : Option Addr} {c : Nat} {B : List Int} {n wd k k' : Int} (h : DrS w g p c B n wd k) (hm : Mod (· = g) w w') (hb : Blk w' g (drC p c B n wd k') 24) : DrS w' g p c B n wd k' :=
  ⟨hb, fun i b hb => by
    obtain ⟨a, ha, hg, hc⟩ := h.els i b hb
    exact ⟨a, ha, hg, hm.cell_of (by rw [add_block]; exact hg) hc⟩, h.rng, h.len, h.nb, h.wb⟩
theorem run_remD {ρ : Operand → Value} {o : Oper} {w : World} {x y : Operand} {n m : Int} {r : Nat} (ho : o.op = .binOp .rem 3 x y 3) (hx : ρ x = .int .i64 n) (hy : ρ y = .int .i64 m) (hn : 0 ≤ n) (hm : 0 < m) (hr : (r : Int) = n % m) (hb : m ≤ 9223372036854775807) :
    (execOp ρ o).run Try.prog w = .ok (.value (.int .i64 r)) w := by
  have h0 : ¬ m = 0 := by omega
  have h1 : n.tmod m = n % m := Int.tmod_eq_emod_of_nonneg hn
  have h2 : 0 ≤ n % m := Int.emod_nonneg _ h0
  have h3 : n % m < m := Int.emod_lt_of_pos _ hm
  have h4 : IntKind.i64.wrap (n % m) = n % m := IntWalk.i64_in _ (by omega)
  unfold execOp
  simp only [ho, hx, hy]
  go_simp
section
variable {ρ : Operand → Value} {o : Oper} {w : World} {x y : Operand}
theorem run_ixB {a : Addr} {n c k : Nat} (ho : o.op = .indexAddr 22 x y) (hx : ρ x = .slice (some a) n c) (hy : ρ y = .int .i64 k) (hk : k < n) : (execOp ρ o).run Try.prog w = .ok (.value (.pointer (some (a.add k)))) w := by
  have h0 : (0 : Int) ≤ (k : Int) := by omega
  have h1 : (k : Int) < (n : Int) := by omega
  have h2 : ((k : Int)).toNat = k := by omega
  unfold execOp
  simp only [ho, hx, hy]
  go_simp
theorem run_quo64 {n m q : Int} (ho : o.op = .binOp .quo 3 x y 3) (hx : ρ x = .int .i64 n) (hy : ρ y = .int .i64 m) (hn : 0 ≤ n) (hm : 0 < m) (hq : q = n / m) (hb : n ≤ 9223372036854775807) :
    (execOp ρ o).run Try.prog w = .ok (.value (.int .i64 q)) w := by
  subst hq
  have h1 : 0 ≤ n / m := Int.ediv_nonneg hn (by omega)
  have h2 : n / m ≤ n := Int.ediv_le_self _ hn
  have h3 : IntKind.i64.wrap (n / m) = n / m := IntWalk.i64_in _ (by omega)
  have hm0 : ¬ m = 0 := by omega
  have h4 : n.tdiv m = n / m := Int.tdiv_eq_ediv_of_nonneg hn
  unfold execOp
  simp only [ho, hx, hy]
  go_simp
end

set_option maxHeartbeats 2000000 in
set_option maxRecDepth 100000 in
theorem next7_calls (g : Nat) (p : Option Addr) (c : Nat) (B : List Int) (n wd k m : Int) (w : World) (hD : DrS w g p c B n wd k) (hk : 0 ≤ k ∧ k ≤ 1000000) (hm : 1 ≤ m ∧ m ≤ 1000000) :
    Calls Try.prog 44 #[.pointer (some ⟨g, 0, none⟩), .int .i64 m] w fun e w' => e = .returned (.int .i64 (nx B (k + 1) m)) ∧ DrS w' g p c B n wd (k + 1) ∧ Mod (· = g) w w' := by
  have hX : nx B (k + 1) m = if B = [] then (k + 1) % m else (B.getD ((k + 1) % (B.length : Int)).toNat 0 + (k + 1) / (B.length : Int)) % m := rfl
  generalize nx B (k + 1) m = X at hX ⊢
  replace hX := Lib.hid hX
  have k3 := hD.blk.cell (i := 3) (v := .int .i64 k) rfl
  have f3 := hD.blk.froz 3
  have hP := hD.put (k + 1)
  have hM : Mod (· = g) w (w.setCell ⟨g, 3, none⟩ (.int .i64 (k + 1))) := (Mod.refl (· = g) w).setCell (p := ⟨g, 3, none⟩) (fun _ => rfl) _
  have s1 : IntKind.i64.wrap (k + 1) = k + 1 := IntWalk.i64_in _ (by omega)
  replace hP := Lib.hid hP
  replace hM := Lib.hid hM
  have hlen := hD.len
  clear hD
  go_enter Try.func44, Try.ntmps44
  go_upto_region 2 with fail
  refine wp_world' (fun wx => DrS wx g p c B n wd (k + 1) ∧ Mod (· = g) w wx) ⟨hP.out, hM.out⟩ ?_
  clear hP hM k3 f3
  rintro w1 ⟨hP, hM⟩
  have k0 := hP.blk.cell (i := 0) (v := .slice p B.length c) rfl
  have k3 := hP.blk.cell (i := 3) (v := .int .i64 (k + 1)) rfl
  by_cases h0 : B = []
  · subst h0
    obtain rfl : X = (k + 1) % m := by rw [hX.out, if_pos rfl]
    replace hP := Lib.hid hP
    replace hM := Lib.hid hM
    clear hX
    go_wp2_with fail
    go_ret
    exact ⟨rfl, hP.out, hM.out⟩
  · have hl0 : 0 < B.length := List.length_pos_iff.2 h0
    have hlb : (B.length == 0) = false := beq_eq_false_iff_ne.2 (by omega)
    obtain ⟨r, hr⟩ : ∃ r : Nat, (r : Int) = (k + 1) % (B.length : Int) := ⟨((k + 1) % (B.length : Int)).toNat, Int.toNat_of_nonneg (Int.emod_nonneg _ (by omega))⟩
    have hrl : r < B.length := by have := Int.emod_lt_of_pos (k + 1) (show (0 : Int) < B.length by omega); omega
    obtain ⟨a, rfl, _, hcell⟩ := hP.els r B[r] (List.getElem?_eq_getElem hrl)
    have hbr := hP.rng _ (List.getElem_mem hrl)
    obtain ⟨q, hq⟩ : ∃ q : Int, q = (k + 1) / (B.length : Int) := ⟨_, rfl⟩
    have hq0 : 0 ≤ q := by rw [hq]; exact Int.ediv_nonneg (by omega) (by omega)
    have hq1 : q ≤ k + 1 := by rw [hq]; exact Int.ediv_le_self _ (by omega)
    have hX2 : Hid (X = (B[r] + q) % m) := Lib.hid (by
      rw [hX.out, if_neg h0, ← hq]
      congr 2
      have e : ((k + 1) % (B.length : Int)).toNat = r := by omega
      rw [e, List.getD_eq_getElem?_getD, List.getElem?_eq_getElem hrl]
      rfl)
    generalize B[r] = b at *
    have s2 : IntKind.i64.wrap b = b := IntWalk.i64_in _ (by omega)
    have s3 : IntKind.i64.wrap (b + q) = b + q := IntWalk.i64_in _ (by omega)
    have hs0 : 0 ≤ b + q := by omega
    replace hP := Lib.hid hP
    replace hM := Lib.hid hM
    replace hr := Lib.hid hr
    replace hq := Lib.hid hq
    clear hX h0
    go_upto_region 4 with fail
    refine wp_region_quiet_lit (by kernel_rfl) (by kernel_rfl) ?_
    iterate 13 (go_big_quiet_step (fail))
    refine wpQuiet_v (by kernel_rfl) (.int .i64 r) (by rintro _ ⟨z, rfl⟩; exact run_remD rfl rfl rfl (by omega) (by omega) hr.out (by omega)) ?_
    simp only [Act.put, List.setIfInBounds_toArray, List.set_cons_succ, List.set_cons_zero]
    refine wpQuiet_v (by kernel_rfl) (.pointer (some (a.add r))) (by rintro _ ⟨z, rfl⟩; exact run_ixB rfl rfl rfl hrl) ?_
    simp only [Act.put, List.setIfInBounds_toArray, List.set_cons_succ, List.set_cons_zero]
    iterate 11 (go_big_quiet_step (fail))
    refine wpQuiet_v (by kernel_rfl) (.int .i64 q) (by rintro _ ⟨z, rfl⟩; exact run_quo64 rfl rfl rfl (by omega) (by omega) hq.out (by omega)) ?_
    simp only [Act.put, List.setIfInBounds_toArray, List.set_cons_succ, List.set_cons_zero]
    repeat (go_big_quiet_step (fail))
    refine wpQuiet_nil ?_
    rintro _ ⟨z, rfl⟩
    go_wp2_with fail
    go_ret
    exact ⟨by rw [hX2.out]; rfl, hP.out.mod ((Mod.refl (fun _ => False) _).drewN _), hM.out.drewN _⟩

set_option maxHeartbeats 2000000 in
set_option maxRecDepth 100000 in
theorem dplace_calls (g : Nat) (p : Option Addr) (c : Nat) (B : List Int) (n wd k : Int) (w : World) (hD : DrS w g p c B n wd k) (hk : 0 ≤ k ∧ k ≤ 900000) :
    Calls Try.prog 43 #[.pointer (some ⟨g, 0, none⟩)] w fun e w' => e = .returned (.agg #[.int .i64 (500 + nx B (k + 1) 20), .int .i64 (500 + nx B (k + 2) 20)]) ∧ DrS w' g p c B n wd (k + 2) ∧ Mod (· = g) w w' := by
  have hbk := hD.blk.lt
  have h1 := nx_bd B (k + 1) (m := 20) (by omega)
  have h2 := nx_bd B (k + 2) (m := 20) (by omega)
  have hn1 := Lib.hid (fun wx (h : DrS wx g p c B n wd k) => next7_calls g p c B n wd k 20 wx h (by omega) (by omega))
  have hn2 := Lib.hid (fun wx (h : DrS wx g p c B n wd (k + 1)) => next7_calls g p c B n wd (k + 1) 20 wx h (by omega) (by omega))
  rw [show k + 1 + 1 = k + 2 by omega] at hn2
  generalize nx B (k + 1) 20 = a1 at *
  generalize nx B (k + 2) 20 = a2 at *
  have hD0 := Lib.hid hD
  replace hD := Lib.hid (hD.mod ((Mod.refl (fun _ => False) w).alloc (.cells #[.int .i64 0, .int .i64 0] 45)))
  go_enter Try.func43, Try.ntmps43
  go_upto_region 1 with fail
  refine wp_world' (fun wx => Blk wx w.heap.size #[.int .i64 0, .int .i64 0] 45 ∧ DrS wx g p c B n wd k ∧ Mod (· = g) w wx) ⟨Blk.new _ _ _, hD.out, (Mod.refl _ _).alloc _⟩ ?_
  clear hD
  rintro w1 ⟨hB, hD, hM⟩
  go_wp2_with fail
  refine (hn1.out _ hD).mono ?_
  rintro e w2 ⟨rfl, hD2, hM2⟩
  have hB2 := hB.mod hM2 (by omega)
  replace hM2 := hM.trans hM2
  clear hn1 hB hD hM
  go_wp2_with fail
  refine (hn2.out _ hD2).mono ?_
  rintro e w3 ⟨rfl, hD3, hM3⟩
  have hB3 := Lib.hid (hB2.mod hM3 (by omega))
  replace hM3 := Lib.hid (hM2.trans hM3)
  replace hD3 := Lib.hid hD3
  clear hn2 hB2 hD2 hM2
  go_wp2_with (refine wpList_store_row rfl 45 _ _ rfl rfl w.heap.size rfl _ #[.int .i64 (500 + a1), .int .i64 (500 + a2)] _ hB3.out rfl rfl (pair_one _ _) (pl_size _ _) ?_; intro w6 hB6 hM6)
  have hM7 := Lib.hid (hM3.out.step hM6 (fun r h1 h2 => by omega))
  have hD6 := Lib.hid (hD0.out.of hM7.out (hD3.out.blk.mod hM6 (by omega)))
  exact bodyPost_ret (res_cell1 Try.results43 rfl (run_load_row' (P := Try.prog) w6 _ 45 _ 45 _ hB6 Try.underlying45 rfl (pl_size _ _))) rfl ⟨rfl, hD6.out, hM7.out⟩

def wideI (wd : Int) : Int := [400, 200, 90, 40].getD (wd % 4).toNat 0
theorem wideI_bd (wd : Int) : 0 ≤ wideI wd ∧ wideI wd ≤ 400 := by
  unfold wideI
  have h1 := Int.emod_nonneg wd (show (4 : Int) ≠ 0 by omega)
  have h2 := Int.emod_lt_of_pos wd (show (0 : Int) < 4 by omega)
  obtain ⟨r, hr⟩ := Int.eq_ofNat_of_zero_le h1
  rw [hr, Int.toNat_natCast]
  match r with
  | 0 => decide
  | 1 => decide
  | 2 => decide
  | 3 => decide
  | r + 4 => omega
/-- a request that is drafted -/
def drR (B : List Int) (wd k fr : Int) : Rq := rqMk [500 + nx B (k + 3) 20, 500 + nx B (k + 4) 20, 500 + nx B (k + 5) 20, 500 + nx B (k + 6) 20, fr + nx B (k + 1) 40, fr + nx B (k + 1) 40 + wideI wd,
  fr + nx B (k + 1) 40 + nx B (k + 2) 60, fr + nx B (k + 1) 40 + nx B (k + 2) 60 + wideI wd + 30, 1 + nx B (k + 7) 9, nx B (k + 8) 4]
theorem run_ixI8 {ρ : Operand → Value} {o : Oper} {w : World} {x y : Operand} {a : Addr} {n c k : Nat} {z : Int} (ho : o.op = .indexAddr 148 x y) (hx : ρ x = .slice (some a) n c) (hy : ρ y = .int .u8 z) (hz : (k : Int) = z) (hk : k < n) :
    (execOp ρ o).run Try.prog w = .ok (.value (.pointer (some (a.add k)))) w := by
  subst hz
  have h0 : (0 : Int) ≤ (k : Int) := by omega
  have h1 : (k : Int) < (n : Int) := by omega
  have h2 : ((k : Int)).toNat = k := by omega
  unfold execOp
  simp only [ho, hx, hy]
  go_simp
theorem rq_size (q : Rq) : (Try.prog.info? 61).map (·.size) = some (rqV q).toArray.size := by
  rw [show (rqV q).toArray.size = 10 from rfl]
  kernel_rfl
theorem rq_size0 : (Try.prog.info? 61).map (·.size) = some 10 := by kernel_rfl

set_option maxHeartbeats 2000000 in
set_option maxRecDepth 100000 in
theorem drequest_calls (g : Nat) (p : Option Addr) (c : Nat) (B : List Int) (n wd k fr : Int) (w : World) (hD : DrS w g p c B n wd k) (hk : 0 ≤ k ∧ k ≤ 100000) (hf : 0 ≤ fr ∧ fr ≤ 100000) :
    Calls Try.prog 42 #[.pointer (some ⟨g, 0, none⟩), .int .i64 fr] w fun e w' => e = .returned (.agg (rqV (drR B wd k fr)).toArray) ∧ DrS w' g p c B n wd (k + 8) ∧ Mod (· = g) w w' := by
  have hX : drR B wd k fr = rqMk [500 + nx B (k + 3) 20, 500 + nx B (k + 4) 20, 500 + nx B (k + 5) 20, 500 + nx B (k + 6) 20, fr + nx B (k + 1) 40, fr + nx B (k + 1) 40 + wideI wd,
    fr + nx B (k + 1) 40 + nx B (k + 2) 60, fr + nx B (k + 1) 40 + nx B (k + 2) 60 + wideI wd + 30, 1 + nx B (k + 7) 9, nx B (k + 8) 4] := rfl
  have hbk := hD.blk.lt
  have hwd := hD.wb
  have h1 := nx_bd B (k + 1) (m := 40) (by omega)
  have h2 := nx_bd B (k + 2) (m := 60) (by omega)
  have h3 := nx_bd B (k + 3) (m := 20) (by omega)
  have h4 := nx_bd B (k + 4) (m := 20) (by omega)
  have h5 := nx_bd B (k + 5) (m := 20) (by omega)
  have h6 := nx_bd B (k + 6) (m := 20) (by omega)
  have h7 := nx_bd B (k + 7) (m := 9) (by omega)
  have h8 := nx_bd B (k + 8) (m := 4) (by omega)
  have hw := wideI_bd wd
  have hn1 := Lib.hid (fun wx (h : DrS wx g p c B n wd k) => next7_calls g p c B n wd k 40 wx h (by omega) (by omega))
  have hn2 := Lib.hid (fun wx (h : DrS wx g p c B n wd (k + 1)) => next7_calls g p c B n wd (k + 1) 60 wx h (by omega) (by omega))
  have hn3 := Lib.hid (fun wx (h : DrS wx g p c B n wd (k + 2)) => dplace_calls g p c B n wd (k + 2) wx h (by omega))
  have hn4 := Lib.hid (fun wx (h : DrS wx g p c B n wd (k + 4)) => dplace_calls g p c B n wd (k + 4) wx h (by omega))
  have hn5 := Lib.hid (fun wx (h : DrS wx g p c B n wd (k + 6)) => next7_calls g p c B n wd (k + 6) 9 wx h (by omega) (by omega))
  have hn6 := Lib.hid (fun wx (h : DrS wx g p c B n wd (k + 7)) => next7_calls g p c B n wd (k + 7) 4 wx h (by omega) (by omega))
  rw [show k + 1 + 1 = k + 2 by omega] at hn2
  rw [show k + 2 + 1 = k + 3 by omega, show k + 2 + 2 = k + 4 by omega] at hn3
  rw [show k + 4 + 1 = k + 5 by omega, show k + 4 + 2 = k + 6 by omega] at hn4
  rw [show k + 6 + 1 = k + 7 by omega] at hn5
  rw [show k + 7 + 1 = k + 8 by omega] at hn6
  have hwr : ∃ r : Nat, (r : Int) = wd % 4 ∧ r < 4 ∧ ∀ w : World, (w.alloc (.cells #[.int .i64 400, .int .i64 200, .int .i64 90, .int .i64 40] 3)).cell? ((⟨w.heap.size, 0, none⟩ : Addr).add r) = some (.int .i64 (wideI wd)) := by
    have e1 := Int.emod_nonneg wd (show (4 : Int) ≠ 0 by omega)
    have e2 := Int.emod_lt_of_pos wd (show (0 : Int) < 4 by omega)
    obtain ⟨r, hr⟩ := Int.eq_ofNat_of_zero_le e1
    have hr4 : r < 4 := by omega
    refine ⟨r, hr.symm, hr4, fun w => ?_⟩
    unfold wideI
    rw [hr, Int.toNat_natCast]
    clear hr e1 e2
    have hB := Blk.new w #[.int .i64 400, .int .i64 200, .int .i64 90, .int .i64 40] 3
    rw [show (⟨w.heap.size, 0, none⟩ : Addr).add r = ⟨w.heap.size, r, none⟩ from by unfold Addr.add; split <;> simp_all]
    match r with
    | 0 => exact hB.cell rfl
    | 1 => exact hB.cell rfl
    | 2 => exact hB.cell rfl
    | 3 => exact hB.cell rfl
    | r + 4 => omega
  obtain ⟨r, hr, hr4, hrc⟩ := hwr
  generalize wideI wd = wi at *
  generalize nx B (k + 1) 40 = a1 at *
  generalize nx B (k + 2) 60 = a2 at *
  generalize nx B (k + 3) 20 = a3 at *
  generalize nx B (k + 4) 20 = a4 at *
  generalize nx B (k + 5) 20 = a5 at *
  generalize nx B (k + 6) 20 = a6 at *
  generalize nx B (k + 7) 9 = a7 at *
  generalize nx B (k + 8) 4 = a8 at *
  generalize drR B wd k fr = X at *
  replace hX := Lib.hid hX
  replace hr := Lib.hid hr
  replace hrc := Lib.hid hrc
  have hD0 := Lib.hid hD
  obtain ⟨Z, hZ⟩ : ∃ Z : Array Value, Z = #[.int .i64 0, .int .i64 0, .int .i64 0, .int .i64 0, .int .i64 0, .int .i64 0, .int .i64 0, .int .i64 0, .int .i64 0, .int .i64 0] := ⟨_, rfl⟩
  have hZs : Z.size = 10 := by rw [hZ]; rfl
  replace hD := Lib.hid (hD.mod ((Mod.refl (fun _ => False) w).alloc (.cells Z 61)))
  go_enter Try.func42, Try.ntmps42
  go_upto_region 1 with fail
  rw [← hZ]
  refine wp_world' (fun wx => Blk wx w.heap.size Z 61 ∧ DrS wx g p c B n wd k ∧ Mod (· = g) w wx) ⟨Blk.new _ _ _, hD.out, (Mod.refl _ _).alloc _⟩ ?_
  clear hD hZ
  rintro w1 ⟨hB, hD, hM⟩
  have k2 := (hD.blk.alloc (.cells #[.int .i64 400, .int .i64 200, .int .i64 90, .int .i64 40] 3)).cell (i := 2) (v := .int .u8 wd) rfl
  have hrl := Lib.hid (run_i64 (hrc.out w1))
  have hD1 := Lib.hid (hD.mod ((Mod.refl (fun _ => False) w1).alloc (.cells #[.int .i64 400, .int .i64 200, .int .i64 90, .int .i64 40] 3)))
  have hB1 := Lib.hid (hB.alloc (.cells #[.int .i64 400, .int .i64 200, .int .i64 90, .int .i64 40] 3))
  have hM1 := Lib.hid (hM.alloc (.cells #[.int .i64 400, .int .i64 200, .int .i64 90, .int .i64 40] 3))
  clear hrc hD hB hM
  go_upto_region 2 with (first | (refine wpList_v rfl (.pointer (some ((⟨w1.heap.size, 0, none⟩ : Addr).add r))) (run_ixI8 rfl rfl rfl hr.out hr4) ?_) | (refine wpList_load_v rfl 3 _ rfl ((⟨w1.heap.size, 0, none⟩ : Addr).add r) rfl _ hrl.out ?_))
  refine wp_world' (fun wx => Blk wx w.heap.size Z 61 ∧ DrS wx g p c B n wd k ∧ Mod (· = g) w wx) ⟨hB1.out, hD1.out, hM1.out⟩ ?_
  clear hD1 hB1 hM1 k2 hrl hr
  rintro w2 ⟨hB, hD, hM⟩
  go_wp2_with fail
  refine (hn1.out _ hD).mono ?_
  rintro e w3 ⟨rfl, hD3, hM3⟩
  replace hB := Lib.hid (hB.mod hM3 (by omega))
  replace hM := Lib.hid (hM.trans hM3)
  clear hn1 hD hM3
  go_wp2_with fail
  refine (hn2.out _ hD3).mono ?_
  rintro e w4 ⟨rfl, hD4, hM4⟩
  replace hB := Lib.hid (hB.out.mod hM4 (by omega))
  replace hM := Lib.hid (hM.out.trans hM4)
  clear hn2 hD3 hM4
  go_wp2_with fail
  refine (hn3.out _ hD4).mono ?_
  rintro e w5 ⟨rfl, hD5, hM5⟩
  replace hB := Lib.hid (hB.out.mod hM5 (by omega))
  replace hM := Lib.hid (hM.out.trans hM5)
  clear hn3 hD4 hM5
  go_wp2_with fail
  refine (hn4.out _ hD5).mono ?_
  rintro e w6 ⟨rfl, hD6, hM6⟩
  replace hB := Lib.hid (hB.out.mod hM6 (by omega))
  replace hM := Lib.hid (hM.out.trans hM6)
  clear hn4 hD5 hM6
  go_wp2_with fail
  refine (hn5.out _ hD6).mono ?_
  rintro e w7 ⟨rfl, hD7, hM7⟩
  replace hB := Lib.hid (hB.out.mod hM7 (by omega))
  replace hM := Lib.hid (hM.out.trans hM7)
  clear hn5 hD6 hM7
  go_wp2_with fail
  refine (hn6.out _ hD7).mono ?_
  rintro e w8 ⟨rfl, hD8, hM8⟩
  replace hB := Lib.hid (hB.out.mod hM8 (by omega))
  replace hM := Lib.hid (hM.out.trans hM8)
  replace hD8 := Lib.hid hD8
  clear hn6 hD7 hM8
  have hX2 : Hid ((rqV X).toArray = #[.int .i64 (500 + a3), .int .i64 (500 + a4), .int .i64 (500 + a5), .int .i64 (500 + a6), .int .i64 (fr + a1), .int .i64 (fr + a1 + wi), .int .i64 (fr + a1 + a2), .int .i64 (fr + a1 + a2 + wi + 30), .int .i64 (1 + a7), .int .i64 a8]) := Lib.hid (by rw [hX.out]; rfl)
  go_wp2_with (refine wpList_store_row rfl 61 _ _ rfl rfl w.heap.size rfl _ #[.int .i64 (500 + a3), .int .i64 (500 + a4), .int .i64 (500 + a5), .int .i64 (500 + a6), .int .i64 (fr + a1), .int .i64 (fr + a1 + wi), .int .i64 (fr + a1 + a2), .int .i64 (fr + a1 + a2 + wi + 30), .int .i64 (1 + a7), .int .i64 a8] _ hB.out rfl hZs (by simp [Value.oneCell']) (by kernel_rfl) ?_; intro w9 hB9 hM9)
  have hM10 := Lib.hid (hM.out.step hM9 (fun r h1 h2 => by omega))
  have hD10 := Lib.hid (hD0.out.of hM10.out (hD8.out.blk.mod hM9 (by omega)))
  exact bodyPost_ret (res_cell1 Try.results42 rfl (run_load_row' (P := Try.prog) w9 _ 61 _ 61 _ hB9 Try.underlying61 rfl (by kernel_rfl))) rfl ⟨congrArg (fun a => Ending.returned (.agg a)) hX2.out.symm, hD10.out, hM10.out⟩

/-- a vehicle that is drafted -/
def drV (B : List Int) (k : Int) : Ve := rqMk [500 + nx B (k + 1) 20, 500 + nx B (k + 2) 20, 8 + nx B (k + 3) 20, nx B (k + 4) 20, 300 + 8 * nx B (k + 5) 100]

set_option maxHeartbeats 2000000 in
set_option maxRecDepth 100000 in
theorem dvehicle_calls (g : Nat) (p : Option Addr) (c : Nat) (B : List Int) (n wd k : Int) (w : World) (hD : DrS w g p c B n wd k) (hk : 0 ≤ k ∧ k ≤ 100000) :
    Calls Try.prog 19 #[.pointer (some ⟨g, 0, none⟩)] w fun e w' => e = .returned (.agg (veR (drV B k)).toArray) ∧ DrS w' g p c B n wd (k + 5) ∧ Mod (· = g) w w' := by
  have hX : drV B k = rqMk [500 + nx B (k + 1) 20, 500 + nx B (k + 2) 20, 8 + nx B (k + 3) 20, nx B (k + 4) 20, 300 + 8 * nx B (k + 5) 100] := rfl
  have hbk := hD.blk.lt
  have h1 := nx_bd B (k + 1) (m := 20) (by omega)
  have h2 := nx_bd B (k + 2) (m := 20) (by omega)
  have h3 := nx_bd B (k + 3) (m := 20) (by omega)
  have h4 := nx_bd B (k + 4) (m := 20) (by omega)
  have h5 := nx_bd B (k + 5) (m := 100) (by omega)
  have hn1 := Lib.hid (fun wx (h : DrS wx g p c B n wd k) => dplace_calls g p c B n wd k wx h (by omega))
  have hn2 := Lib.hid (fun wx (h : DrS wx g p c B n wd (k + 2)) => next7_calls g p c B n wd (k + 2) 20 wx h (by omega) (by omega))
  have hn3 := Lib.hid (fun wx (h : DrS wx g p c B n wd (k + 3)) => next7_calls g p c B n wd (k + 3) 20 wx h (by omega) (by omega))
  have hn4 := Lib.hid (fun wx (h : DrS wx g p c B n wd (k + 4)) => next7_calls g p c B n wd (k + 4) 100 wx h (by omega) (by omega))
  rw [show k + 2 + 1 = k + 3 by omega] at hn2
  rw [show k + 3 + 1 = k + 4 by omega] at hn3
  rw [show k + 4 + 1 = k + 5 by omega] at hn4
  generalize nx B (k + 1) 20 = a1 at *
  generalize nx B (k + 2) 20 = a2 at *
  generalize nx B (k + 3) 20 = a3 at *
  generalize nx B (k + 4) 20 = a4 at *
  generalize nx B (k + 5) 100 = a5 at *
  generalize drV B k = X at *
  replace hX := Lib.hid hX
  have hD0 := Lib.hid hD
  obtain ⟨Z, hZ⟩ : ∃ Z : Array Value, Z = #[.int .i64 0, .int .i64 0, .int .i64 0, .int .i64 0, .int .i64 0] := ⟨_, rfl⟩
  have hZs : Z.size = 5 := by rw [hZ]; rfl
  replace hD := Lib.hid (hD.mod ((Mod.refl (fun _ => False) w).alloc (.cells Z 47)))
  go_enter Try.func19, Try.ntmps19
  go_upto_region 1 with fail
  rw [← hZ]
  refine wp_world' (fun wx => Blk wx w.heap.size Z 47 ∧ DrS wx g p c B n wd k ∧ Mod (· = g) w wx) ⟨Blk.new _ _ _, hD.out, (Mod.refl _ _).alloc _⟩ ?_
  clear hD hZ
  rintro w2 ⟨hB, hD, hM⟩
  go_wp2_with fail
  refine (hn1.out _ hD).mono ?_
  rintro e w3 ⟨rfl, hD3, hM3⟩
  replace hB := Lib.hid (hB.mod hM3 (by omega))
  replace hM := Lib.hid (hM.trans hM3)
  clear hn1 hD hM3
  go_wp2_with fail
  refine (hn2.out _ hD3).mono ?_
  rintro e w4 ⟨rfl, hD4, hM4⟩
  replace hB := Lib.hid (hB.out.mod hM4 (by omega))
  replace hM := Lib.hid (hM.out.trans hM4)
  clear hn2 hD3 hM4
  go_wp2_with fail
  refine (hn3.out _ hD4).mono ?_
  rintro e w5 ⟨rfl, hD5, hM5⟩
  replace hB := Lib.hid (hB.out.mod hM5 (by omega))
  replace hM := Lib.hid (hM.out.trans hM5)
  clear hn3 hD4 hM5
  go_wp2_with fail
  refine (hn4.out _ hD5).mono ?_
  rintro e w6 ⟨rfl, hD6, hM6⟩
  replace hB := Lib.hid (hB.out.mod hM6 (by omega))
  replace hM := Lib.hid (hM.out.trans hM6)
  replace hD6 := Lib.hid hD6
  clear hn4 hD5 hM6
  have hX2 : Hid ((veR X).toArray = #[.int .i64 (500 + a1), .int .i64 (500 + a2), .int .i64 (8 + a3), .int .i64 a4, .int .i64 (300 + 8 * a5)]) := Lib.hid (by rw [hX.out]; rfl)
  have s1 : IntKind.i64.wrap (8 * a5) = 8 * a5 := IntWalk.i64_in _ (by omega)
  have s2 : IntKind.i64.wrap (300 + 8 * a5) = 300 + 8 * a5 := IntWalk.i64_in _ (by omega)
  go_wp2_with (refine wpList_store_row rfl 47 _ _ rfl rfl w.heap.size rfl _ #[.int .i64 (500 + a1), .int .i64 (500 + a2), .int .i64 (8 + a3), .int .i64 a4, .int .i64 (300 + 8 * a5)] _ hB.out rfl hZs (by simp [Value.oneCell']) (by kernel_rfl) ?_; intro w9 hB9 hM9)
  have hM10 := Lib.hid (hM.out.step hM9 (fun r h1 h2 => by omega))
  have hD10 := Lib.hid (hD0.out.of hM10.out (hD6.out.blk.mod hM9 (by omega)))
  exact bodyPost_ret (res_cell1 Try.results19 rfl (run_load_row' (P := Try.prog) w9 _ 47 _ 47 _ hB9 Try.underlying47 rfl (by kernel_rfl))) rfl ⟨congrArg (fun a => Ending.returned (.agg a)) hX2.out.symm, hD10.out, hM10.out⟩

/-- requests that are drafted -/
def drT (B : List Int) (wd k : Int) (m : Nat) : List Rq := (List.range m).map fun i : Nat => drR B wd (k + 8 * (i : Int)) (25 * (i : Int))
theorem drT_len (B : List Int) (wd k : Int) (m : Nat) : (drT B wd k m).length = m := by simp [drT]
theorem drT_succ (B : List Int) (wd k : Int) (m : Nat) : drT B wd k (m + 1) = drT B wd k m ++ [drR B wd (k + 8 * (m : Int)) (25 * (m : Int))] := by
  unfold drT
  rw [List.range_succ, List.map_append]
  rfl

set_option maxHeartbeats 2000000 in
set_option maxRecDepth 100000 in
theorem drequests_calls (g : Nat) (p : Option Addr) (c : Nat) (B : List Int) (n wd k : Int) (m : Nat) (w : World) (hD : DrS w g p c B n wd k) (hk : 0 ≤ k ∧ k ≤ 10000) (hm : m ≤ 100) :
    Calls Try.prog 18 #[.pointer (some ⟨g, 0, none⟩), .int .i64 m] w fun e w' =>
      (∃ q d, e = .returned (.slice q (drT B wd k m).length d) ∧ (drT B wd k m).length ≤ d ∧ d ≤ 9223372036854775807 ∧ Els w' q 10 ((drT B wd k m).map rqV) ∧ (∀ a, q = some a → w.heap.size ≤ a.block)) ∧ DrS w' g p c B n wd (k + 8 * (m : Int)) ∧ Mod (· = g) w w' := by
  have hbk := hD.blk.lt
  have hD0 := Lib.hid hD
  go_enter Try.func18, Try.ntmps18
  go_wp2_with fail
  go_loopw [5, 6] (fun s5 s6 wx => ∃ i : Nat, i ≤ m ∧ s6 = .int .i64 i ∧ wx.ownsRow w.heap.size 61 10 s5 i ((drT B wd k i).map rqV).flatten ∧ DrS wx g p c B n wd (k + 8 * (i : Int)) ∧ Mod (· = g) w wx) (fun _ s6 _ => m - (intOf s6).toNat)
  case atStart => exact ⟨0, Nat.zero_le _, rfl, World.ownsRow_nil _ _ _ _, by simpa using hD, Mod.refl _ _⟩
  case round =>
    clear hD
    obtain ⟨i, hi, rfl, hO, hD, hM⟩ := hrel
    by_cases hlt : i < m
    · have hltI : (i : Int) < (m : Int) := by omega
      have s1 : IntKind.i64.wrap ((i : Int) + 1) = (i : Int) + 1 := IntWalk.i64_in _ (by omega)
      have s2 : IntKind.i64.wrap (25 * (i : Int)) = 25 * (i : Int) := IntWalk.i64_in _ (by omega)
      have hrq := Lib.hid (drequest_calls g p c B n wd (k + 8 * (i : Int)) (25 * (i : Int)) wr hD (by omega) (by omega))
      have hts := Lib.hid (drT_succ B wd k i)
      generalize drR B wd (k + 8 * (i : Int)) (25 * (i : Int)) = X at *
      replace hO := Lib.hid hO
      replace hM := Lib.hid hM
      clear hD
      go_wp2_with fail
      refine hrq.out.mono ?_
      rintro e w2 ⟨rfl, hD2, hM2⟩
      have hO2 := own_mod hO.out hM2 (fun b hb e => by have := (own_blk_lt hO.out hb).1; omega)
      replace hM2 := hM.out.trans hM2
      have hOA := Lib.hid (own_mod hO2 ((Mod.refl (fun _ => False) w2).alloc (.cells (rqV X).toArray 61)) (fun _ _ h => h))
      have hDA := Lib.hid (hD2.mod ((Mod.refl (fun _ => False) w2).alloc (.cells (rqV X).toArray 61)))
      have hMA := Lib.hid (hM2.alloc (.cells (rqV X).toArray 61))
      have hzA := Lib.hid hMA.out.size
      clear hrq hO hM hO2 hD2 hM2
      go_wp2_with (first | (refine wpList_bs1 rfl 30 1 0 _ rfl (.agg (rqV X).toArray) rfl _ _ (rsl_rq X _) ?_) |
        (refine wpList_appG rq_el rfl _ _ rfl w.heap.size hzA.out _ _ _ rfl hOA.out (by omega) _ 1 1 (rqV X) rfl rfl (by omega) (row_cells (Blk.new _ _ _)) (rq_one _) ?_; intro v' w13 hO' hg; have hM3 := Lib.hid (hMA.out.grown hg (fun b hb hlt => by have := (own_blk_lt hOA.out hb).1; omega)); have hD3 := Lib.hid (hD0.out.of hM3.out (grown_blk hDA.out.blk hOA.out hbk hg)); replace hO' := Lib.hid hO'; clear hg hOA hDA hMA hzA))
      go_roundw
      case rel =>
        refine ⟨i + 1, by omega, by simp, ?_, ?_, hM3.out⟩
        · rw [hts.out, List.map_append, List.flatten_append]
          simpa using hO'.out
        · have := hD3.out
          rwa [show k + 8 * (i : Int) + 8 = k + 8 * ((i + 1 : Nat) : Int) by omega] at this
      case measure => simp [intOf]; omega
    · obtain rfl : i = m := by omega
      obtain ⟨q, i', d, rfl⟩ := own_isS hO
      have hEl := own_els (R := (drT B wd k i).map rqV) (rqV_len _) (by rw [List.length_map, drT_len]; exact hO) (by rw [List.length_map, drT_len]; omega)
      rw [List.length_map, drT_len] at hEl
      obtain ⟨h1, rfl, h3, h4⟩ := hEl
      have hcap := own_cap hO
      have hln := Lib.hid (drT_len B wd k i')
      replace h1 := Lib.hid h1
      replace h4 := Lib.hid (fun a ha => (h4 a ha).1)
      replace hD := Lib.hid hD
      replace hM := Lib.hid hM
      clear hO
      go_wp2_with fail
      go_ret
      exact ⟨⟨q, d, by rw [hln.out]; rfl, by rw [hln.out]; exact h3, hcap, h1.out, h4.out⟩, hD.out, hM.out⟩
end Go.Proofs.Ytpbmeeogledmdae
