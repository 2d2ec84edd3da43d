/-
  Drafts (layer 7): routes.
-/
import Derived.Test.YtpbmeeogledmdaeDr
import Derived.Test.YtpbmeeogledmdaeWi
import Derived.Test.YtpbmeeogledmdaeRou
namespace Go.Proofs.Ytpbmeeogledmdae
open Go.RowKit

section
variable {P : Program} {ρ : Operand → Value} {o : Oper} {w : World} {x y : Operand} {p : Option Addr} {n c k : Nat}
theorem run_slHD {T : TypeId} {s : Nat} (hT : P.underlying T = some (.slice (P.elem T))) (hs : (sizeOf (P.elem T)).run P w = .ok s w) (ho : o.op = .slice T x none (some y) none) (hx : ρ x = .slice p n c) (hy : ρ y = .int .i64 k) (h1 : k ≤ c) :
    (execOp ρ o).run P w = .ok (.value (.slice p k c)) w := by
  have h := run_slice_h (P := P) w T p n c hT .i64 (k : Int) (by omega) (by omega)
  rw [← run_sliceAt_slice (P := P) w T (.slice p n c) _ _ _ hT, hs] at h
  simp only [Result.andThen_ok, Int.toNat_natCast, sliced] at h
  have e : (if c = 0 then p else p.map (·.add (0 * s))) = p := by
    split
    · rfl
    · cases p with
      | none => rfl
      | some a => rw [Nat.zero_mul]; rfl
  rw [e, Nat.sub_zero, Nat.sub_zero] at h
  unfold execOp
  simp only [ho, hx, hy, Option.map_some, Option.map_none, Sem.run_bind, h, Sem.run_pure, Result.andThen_ok]
end
section
variable {ρ : Operand → Value} {o : Oper} {w : World} {x y : Operand}
theorem run_minD {m a b : Int} (hm : m = if b < a then b else a) (ho : o.op = .call { callee := .builtin .min, args := #[x, y], argTypes := #[3, 3] }) (hx : ρ x = .int .i64 a) (hy : ρ y = .int .i64 b) :
    (execOp ρ o).run Try.prog w = .ok (.value (.int .i64 m)) w := by
  subst hm
  unfold execOp
  simp only [ho]
  go_simp
end
theorem rsl_st0 (w : World) : (Instr.buildSlice 48 0 #[]).run Try.prog w = .ok (.slice (some ⟨w.heap.size, 0, none⟩) 0 0) (w.alloc (.cells #[] 81)) := by kernel_rfl
theorem insS_len {l : List (Int × Int)} {k : Nat} (hk : k ≤ l.length) (s : Int × Int) : (insS l k s).length = l.length + 1 := by
  unfold insS
  simp
  omega
theorem insS_flat {l : List (Int × Int)} {k : Nat} (s : Int × Int) : ((insS l k s).map stV).flatten = ((l.take k).map stV).flatten ++ stV s ++ ((l.drop k).map stV).flatten := by
  unfold insS
  simp [List.flatten_append]
/-- so many stops behind the end a request is picked up -/
def drK (B : List Int) (k : Int) (n : Nat) : Nat := n - min n (nx B (k + 1) 3).toNat
def drJ (B : List Int) (k : Int) (n kk : Nat) : Nat := kk + 1 + (nx B (k + 2) ((n : Int) + 1 - (kk : Int))).toNat
def drStep (B : List Int) (k r : Int) (out : List (Int × Int)) : List (Int × Int) :=
  insS (insS out (drK B k out.length) (r, 0)) (drJ B k out.length (drK B k out.length)) (r, 1)
def drRt (B : List Int) (k r : Int) : Nat → List (Int × Int)
  | 0 => []
  | m + 1 => drStep B (k + 2 * (m : Int)) (r + (m : Int)) (drRt B k r m)
theorem drK_le (B : List Int) (k : Int) (n : Nat) : drK B k n ≤ n := Nat.sub_le _ _
theorem drJ_le (B : List Int) (k : Int) {n kk : Nat} (h : kk ≤ n) : drJ B k n kk ≤ n + 1 := by
  unfold drJ
  have := nx_bd B (k + 2) (m := (n : Int) + 1 - (kk : Int)) (by omega)
  omega
theorem drStep_len (B : List Int) (k r : Int) (out : List (Int × Int)) : (drStep B k r out).length = out.length + 2 := by
  unfold drStep
  have h1 := drK_le B k out.length
  have h2 := drJ_le B k h1
  have h3 := insS_len h1 (r, 0)
  rw [insS_len (by omega), h3]
theorem drRt_len (B : List Int) (k r : Int) : ∀ m, (drRt B k r m).length = 2 * m
  | 0 => rfl
  | m + 1 => by rw [drRt, drStep_len, drRt_len B k r m]; omega

set_option maxHeartbeats 4000000 in
set_option maxRecDepth 100000 in
theorem droute_calls (g : Nat) (p : Option Addr) (c : Nat) (B : List Int) (n wd k f : Int) (m : Nat) (w : World) (hD : DrS w g p c B n wd k) (hk : 0 ≤ k ∧ k ≤ 10000) (hm : m ≤ 20) (hf : 0 ≤ f ∧ f ≤ 1000) :
    Calls Try.prog 20 #[.pointer (some ⟨g, 0, none⟩), .int .i64 f, .int .i64 (f + (m : Int))] w fun e w' =>
      (∃ q d, e = .returned (.slice q (drRt B k f m).length d) ∧ (drRt B k f m).length ≤ d ∧ d ≤ 9223372036854775807 ∧ Els w' q 2 ((drRt B k f m).map stV) ∧ (∀ a, q = some a → w.heap.size ≤ a.block)) ∧ DrS w' g p c B n wd (k + 2 * (m : Int)) ∧ Mod (· = g) w w' := by
  have hbk := hD.blk.lt
  have hD0 := Lib.hid hD
  have hTS : Try.prog.underlying 48 = some (.slice (Try.prog.elem 48)) := by kernel_rfl
  have hSS : ∀ w : World, (sizeOf (Try.prog.elem 48)).run Try.prog w = .ok 2 w := fun _ => by kernel_rfl
  replace hTS := Lib.hid hTS
  replace hSS := Lib.hid hSS
  go_enter Try.func20, Try.ntmps20
  go_wp2_with fail
  go_loopw [7, 8] (fun s7 s8 wx => ∃ (i : Nat) (q : Option Addr) (d : Nat), i ≤ m ∧ s8 = .int .i64 (f + (i : Int)) ∧ s7 = .slice q (2 * i) d ∧ 2 * i ≤ d ∧ d ≤ 9223372036854775807 ∧ Els wx q 2 ((drRt B k f i).map stV) ∧ (∀ a, q = some a → w.heap.size ≤ a.block) ∧ DrS wx g p c B n wd (k + 2 * (i : Int)) ∧ Mod (· = g) w wx) (fun _ s8 _ => m - (intOf s8 - f).toNat)
  case atStart => exact ⟨0, none, 0, Nat.zero_le _, by simp, rfl, Nat.le_refl _, by omega, ⟨fun _ => rfl, fun _ h => (by cases h), by simp [drRt], fun _ h => (by cases h)⟩, (fun _ h => (by cases h)), by simpa using hD, Mod.refl _ _⟩
  case round =>
    clear hD
    obtain ⟨i, q, d, hi, rfl, rfl, hqd, hdm, hE, hq, hD, hM⟩ := hrel
    by_cases hlt : i < m
    · have hltI : f + (i : Int) < f + (m : Int) := by omega
      have s1 : IntKind.i64.wrap (f + (i : Int) + 1) = f + (i : Int) + 1 := IntWalk.i64_in _ (by omega)
      have hrs : Hid (drRt B k f (i + 1) = drStep B (k + 2 * (i : Int)) (f + (i : Int)) (drRt B k f i)) := Lib.hid rfl
      have hln := drRt_len B k f i
      generalize hR : drRt B k f i = R at *
      clear hR
      have hi20 : 2 * i ≤ 40 := by omega
      generalize hN : 2 * i = N at *
      have hn1 := Lib.hid (next7_calls g p c B n wd (k + 2 * (i : Int)) 3 wr hD (by omega) (by omega))
      have hb1 := nx_bd B (k + 2 * (i : Int) + 1) (m := 3) (by omega)
      have hkd : drK B (k + 2 * (i : Int)) R.length = N - min N (nx B (k + 2 * (i : Int) + 1) 3).toNat := by unfold drK; rw [hln]
      obtain ⟨mn, hmn⟩ : ∃ mn : Nat, mn = min N (nx B (k + 2 * (i : Int) + 1) 3).toNat := ⟨_, rfl⟩
      rw [← hmn] at hkd
      have hmnI : (mn : Int) = if nx B (k + 2 * (i : Int) + 1) 3 < (N : Int) then nx B (k + 2 * (i : Int) + 1) 3 else (N : Int) := by
        rw [hmn]
        split <;> omega
      have hmnl : mn ≤ N := by rw [hmn]; exact Nat.min_le_left _ _
      clear hmn
      generalize nx B (k + 2 * (i : Int) + 1) 3 = a1 at *
      replace hmnI := Lib.hid hmnI
      replace hE := Lib.hid hE
      replace hM := Lib.hid hM
      clear hD
      go_wp2_with fail
      refine hn1.out.mono ?_
      rintro e w2 ⟨rfl, hD2, hM2a⟩
      have hM2 := hM.out.trans hM2a
      have hE2 : Els w2 q 2 (R.map stV) := by
        refine ⟨hE.out.nil, hE.out.len, hE.out.big, fun a ha k x j v hk hj => ?_⟩
        have := hE.out.cells a ha k x j v hk hj
        exact hM2a.cell_of (by rw [add_block]; have := hq a ha; omega) this
      clear hn1 hE hM
      go_upto_region 6 with (refine wpList_v rfl (.int .i64 mn) (run_minD hmnI.out rfl rfl rfl) ?_)
      have hK := drK_le B (k + 2 * (i : Int)) R.length
      rw [hkd] at hK
      obtain ⟨kk, hkk⟩ : ∃ kk, N - mn = kk := ⟨_, rfl⟩
      rw [show (N : Int) - (mn : Int) = (kk : Int) by omega]
      rw [hkk] at hkd hK
      have hkN : kk ≤ N := by omega
      have hkd' : kk ≤ d := by omega
      clear hmnI hmnl hkk
      have ho1 := Lib.hid (World.ownsRow_made (base := w2.heap.size) (e := 81) (size := 2) w2 #[] 0 (Nat.le_refl _) (by unfold maxLen; omega) rfl)
      have hlow1 := Lib.hid (new_below w2 (.cells #[] 81))
      have hEA := Lib.hid (show Els (w2.alloc (.cells #[] 81)) q 2 ((R.take kk).map stV) from by rw [List.map_take]; exact (hE2.below hlow1.out).take kk)
      have hz1 := Lib.hid hlow1.out.size
      have hkl : kk = ((R.take kk).map stV).length := by simp; omega
      replace hkl := Lib.hid hkl
      replace hE2 := Lib.hid hE2
      replace hD2 := Lib.hid hD2
      replace hM2 := Lib.hid hM2
      go_upto_region 7 with (first | (refine wpList_bs0 rfl 48 0 rfl _ _ (rsl_st0 _) ?_) | (refine wpList_v rfl (.slice q kk d) (run_slHD hTS.out (hSS.out _) rfl rfl rfl hkd') ?_) |
        (refine wpList_appE st_el rfl _ _ rfl w2.heap.size hz1.out _ 0 [] rfl ho1.out (by omega) q kk d _ rfl hEA.out hkl.out (by omega) (stV_all _) ?_; intro v6 w6 hO6 hg6))
      have hlow6 := Lib.hid (grown_low hlow1.out (Nat.le_refl _) (Nat.le_refl _) ho1.out hg6)
      rw [Nat.zero_add, List.nil_append] at hO6
      have hO6A := Lib.hid (own_mod hO6 ((Mod.refl (fun _ => False) w6).alloc (.cells (stV (f + (i : Int), 0)).toArray 81)) (fun _ _ h => h))
      have hlow6A := Lib.hid (hlow6.out.alloc hlow6.out.size (.cells (stV (f + (i : Int), 0)).toArray 81))
      have hz6A := Lib.hid hlow6A.out.size
      clear hg6 hO6 hEA ho1 hlow1 hz1 hlow6
      go_upto_region 8 with (first | (refine wpList_bs1 rfl 48 1 0 _ rfl (.agg #[.int .i64 (f + (i : Int)), .int .i64 0]) rfl _ _ (rsl_st (f + (i : Int)) 0 _) ?_) |
        (refine wpList_appG st_el rfl _ _ rfl w2.heap.size hz6A.out v6 kk _ rfl hO6A.out (by omega) ⟨w6.heap.size, 0, none⟩ 1 1 (stV (f + (i : Int), 0)) rfl rfl (by omega) (row_cells (Blk.new _ _ _)) (st_one _) ?_; intro v7 w7 hO7 hg7))
      have hlow7 := Lib.hid (grown_low hlow6A.out (Nat.le_refl _) (Nat.le_refl _) hO6A.out hg7)
      have hz7 := Lib.hid hlow7.out.size
      have hE7 := Lib.hid (slB_els (c := d) (i := kk) (j := N) (hE2.out.below hlow7.out) hkN hqd)
      have hkl7 := Lib.hid (show N - kk = (((R.drop kk).take (N - kk)).map stV).length by simp; omega)
      replace hO7 := Lib.hid hO7
      clear hg7 hO6A hlow6A hz6A
      go_upto_region 9 with (first | (refine wpList_v rfl (.slice (slB q kk d) (N - kk) (d - kk)) (run_sll rfl rfl rfl hkN) ?_) |
        (refine wpList_appE st_el rfl _ _ rfl w2.heap.size hz7.out v7 (kk + 1) _ rfl hO7.out (by omega) (slB q kk d) (N - kk) (d - kk) _ rfl hE7.out hkl7.out (by omega) (stV_all _) ?_; intro v8 w8 hO8 hg8))
      have hlow8 := Lib.hid (grown_low hlow7.out (Nat.le_refl _) (Nat.le_refl _) hO7.out hg8)
      obtain ⟨L, hL⟩ : ∃ L, L = insS R kk (f + (i : Int), 0) := ⟨_, rfl⟩
      have hLn : L.length = N + 1 := by rw [hL, insS_len hK, hln]
      have hLf : (L.map stV).flatten = ((R.take kk).map stV).flatten ++ stV (f + (i : Int), 0) ++ (((R.drop kk).take (N - kk)).map stV).flatten := by
        rw [hL, insS_flat, List.take_of_length_le (show (R.drop kk).length ≤ N - kk by simp; omega)]
      obtain ⟨q8, n8, d8, rfl⟩ := own_isS hO8
      obtain ⟨hE8, hn8, hd8, hq8⟩ := own_els (R := L.map stV) (stV_len _) (by
        rw [List.length_map, hLn, hLf]
        rw [show kk + 1 + (N - kk) = N + 1 by omega] at hO8
        exact hO8) (by rw [List.length_map, hLn]; omega)
      rw [List.length_map, hLn] at hn8
      obtain ⟨N1, hN1⟩ : ∃ N1, N + 1 = N1 := ⟨_, rfl⟩
      rw [hN1] at hn8 hLn
      subst hn8
      have hcap8 := own_cap hO8
      have hM8a := (Mod.refl (fun _ => False) w2).after hlow8.out
      have hD8 := hD2.out.mod hM8a
      have hM8 := hM2.out.trans (hM8a.mono (fun _ _ h => h.elim))
      have hz2 := hM2.out.size
      have hst : Hid (drRt B k f (i + 1) = insS L (drJ B (k + 2 * (i : Int)) N kk) (f + (i : Int), 1)) := Lib.hid (by
        rw [hrs.out, hL]
        unfold drStep
        rw [hkd, hln])
      have hjl := drJ_le B (k + 2 * (i : Int)) hkN
      have hje : drJ B (k + 2 * (i : Int)) N kk = kk + 1 + (nx B (k + 2 * (i : Int) + 2) ((n8 : Int) - (kk : Int))).toNat := by
        unfold drJ
        rw [show (N : Int) + 1 - (kk : Int) = (n8 : Int) - (kk : Int) by omega]
      generalize drJ B (k + 2 * (i : Int)) N kk = jj at *
      have hb2 := nx_bd B (k + 2 * (i : Int) + 2) (m := (n8 : Int) - (kk : Int)) (by omega)
      have hn2 := Lib.hid (next7_calls g p c B n wd (k + 2 * (i : Int) + 1) ((n8 : Int) - (kk : Int)) w8 hD8 (by omega) (by omega))
      rw [show k + 2 * (i : Int) + 1 + 1 = k + 2 * (i : Int) + 2 by omega] at hn2
      generalize nx B (k + 2 * (i : Int) + 2) ((n8 : Int) - (kk : Int)) = a2 at *
      have hkn8 : kk + 1 ≤ n8 := by omega
      have hn41 : n8 ≤ 41 := by omega
      have hjn : jj ≤ n8 := by omega
      have hja : (kk : Int) + 1 + a2 = (jj : Int) := by omega
      have hjd : jj ≤ d8 := by omega
      replace hja := Lib.hid hja
      replace hE8 := Lib.hid hE8
      replace hq8 := Lib.hid hq8
      replace hM8 := Lib.hid hM8
      replace hLn := Lib.hid hLn
      clear hg8 hO8 hO7 hlow7 hz7 hE7 hkl7 hlow8 hL hLf hN1 hM8a hD8 hje hjl hrs hkd hK hD2 hM2 hE2 hM2a hln hq hqd hdm hkd' hkN hN
      go_wp2_with fail
      refine hn2.out.mono ?_
      rintro e w9 ⟨rfl, hD9, hM9a⟩
      have hM9 := Lib.hid (hM8.out.trans hM9a)
      have hE9 : Els w9 q8 2 (L.map stV) := by
        refine ⟨hE8.out.nil, hE8.out.len, hE8.out.big, fun a ha k x j v hk hj => ?_⟩
        exact hM9a.cell_of (by rw [add_block]; have := (hq8.out a ha).1; omega) (hE8.out.cells a ha k x j v hk hj)
      clear hn2 hE8 hM8 hM9a
      replace hE9 := Lib.hid hE9
      replace hD9 := Lib.hid hD9
      go_upto_region 10 with fail
      rw [hja.out]
      clear hja
      have ho1 := Lib.hid (World.ownsRow_made (base := w9.heap.size) (e := 81) (size := 2) w9 #[] 0 (Nat.le_refl _) (by unfold maxLen; omega) rfl)
      have hlow1 := Lib.hid (new_below w9 (.cells #[] 81))
      have hEA := Lib.hid (show Els (w9.alloc (.cells #[] 81)) q8 2 ((L.take jj).map stV) from by rw [List.map_take]; exact (hE9.out.below hlow1.out).take jj)
      have hz1 := Lib.hid hlow1.out.size
      have hkl := Lib.hid (show jj = ((L.take jj).map stV).length by simp; have := hLn.out; omega)
      go_upto_region 11 with (first | (refine wpList_bs0 rfl 48 0 rfl _ _ (rsl_st0 _) ?_) | (refine wpList_v rfl (.slice q8 jj d8) (run_slHD hTS.out (hSS.out _) rfl rfl rfl hjd) ?_) |
        (refine wpList_appE st_el rfl _ _ rfl w9.heap.size hz1.out _ 0 [] rfl ho1.out (by omega) q8 jj d8 _ rfl hEA.out hkl.out (by omega) (stV_all _) ?_; intro v6 w16 hO6 hg6))
      have hlow6 := Lib.hid (grown_low hlow1.out (Nat.le_refl _) (Nat.le_refl _) ho1.out hg6)
      rw [Nat.zero_add, List.nil_append] at hO6
      have hO6A := Lib.hid (own_mod hO6 ((Mod.refl (fun _ => False) w16).alloc (.cells (stV (f + (i : Int), 1)).toArray 81)) (fun _ _ h => h))
      have hlow6A := Lib.hid (hlow6.out.alloc hlow6.out.size (.cells (stV (f + (i : Int), 1)).toArray 81))
      have hz6A := Lib.hid hlow6A.out.size
      clear hg6 hO6 hEA ho1 hlow1 hz1 hlow6 hkl
      go_upto_region 12 with (first | (refine wpList_bs1 rfl 48 1 0 _ rfl (.agg #[.int .i64 (f + (i : Int)), .int .i64 1]) rfl _ _ (rsl_st (f + (i : Int)) 1 _) ?_) |
        (refine wpList_appG st_el rfl _ _ rfl w9.heap.size hz6A.out v6 jj _ rfl hO6A.out (by omega) ⟨w16.heap.size, 0, none⟩ 1 1 (stV (f + (i : Int), 1)) rfl rfl (by omega) (row_cells (Blk.new _ _ _)) (st_one _) ?_; intro v7 w17 hO7 hg7))
      have hlow7 := Lib.hid (grown_low hlow6A.out (Nat.le_refl _) (Nat.le_refl _) hO6A.out hg7)
      have hz7 := Lib.hid hlow7.out.size
      have hE7 := Lib.hid (slB_els (c := d8) (i := jj) (j := n8) (hE9.out.below hlow7.out) hjn hd8)
      have hkl7 := Lib.hid (show n8 - jj = (((L.drop jj).take (n8 - jj)).map stV).length by simp; have := hLn.out; omega)
      replace hO7 := Lib.hid hO7
      clear hg7 hO6A hlow6A hz6A
      go_wp2_with (first | (refine wpList_v rfl (.slice (slB q8 jj d8) (n8 - jj) (d8 - jj)) (run_sll rfl rfl rfl hjn) ?_) |
        (refine wpList_appE st_el rfl _ _ rfl w9.heap.size hz7.out v7 (jj + 1) _ rfl hO7.out (by omega) (slB q8 jj d8) (n8 - jj) (d8 - jj) _ rfl hE7.out hkl7.out (by omega) (stV_all _) ?_; intro v8 w18 hO8 hg8))
      have hlow8 := Lib.hid (grown_low hlow7.out (Nat.le_refl _) (Nat.le_refl _) hO7.out hg8)
      obtain ⟨q18, n18, d18, rfl⟩ := own_isS hO8
      have hdl := drRt_len B k f (i + 1)
      rw [hst.out] at hdl
      obtain ⟨hE18, hn18, hd18, hq18⟩ := own_els (R := (insS L jj (f + (i : Int), 1)).map stV) (stV_len _) (by
        rw [List.length_map, hdl, insS_flat]
        have hl2 := insS_len (l := L) (k := jj) (by rw [hLn.out]; exact hjn) (f + (i : Int), 1)
        rw [hdl, hLn.out] at hl2
        rw [show jj + 1 + (n8 - jj) = 2 * (i + 1) by omega] at hO8
        rw [List.take_of_length_le (show (L.drop jj).length ≤ n8 - jj by rw [List.length_drop, hLn.out]; omega)] at hO8
        exact hO8) (by rw [List.length_map, hdl]; omega)
      rw [List.length_map, hdl] at hn18
      subst hn18
      have hcap18 := own_cap hO8
      have hM18a := (Mod.refl (fun _ => False) w9).after hlow8.out
      have hD18 := Lib.hid (hD9.out.mod hM18a)
      have hz9 := hM9.out.size
      have hM18 := Lib.hid (hM9.out.trans (hM18a.mono (fun _ _ h => h.elim)))
      replace hE18 := Lib.hid hE18
      replace hq18 := Lib.hid hq18
      clear hO8 hg8 hM18a hlow8 hlow7 hz7 hE7 hkl7 hO7 hdl hE9 hD9 hM9
      go_roundw
      case rel =>
        refine ⟨i + 1, q18, d18, by omega, congrArg _ (by omega), rfl, hd18, hcap18, by rw [hst.out]; exact hE18.out, fun a ha => by have := (hq18.out a ha).1; omega, ?_, hM18.out⟩
        have := hD18.out
        rwa [show k + 2 * (i : Int) + 2 = k + 2 * ((i + 1 : Nat) : Int) by omega] at this
      case measure => simp [intOf]; omega
    · obtain rfl : i = m := by omega
      have hln := Lib.hid (drRt_len B k f i)
      replace hE := Lib.hid hE
      replace hD := Lib.hid hD
      replace hM := Lib.hid hM
      go_wp2_with fail
      go_ret
      exact ⟨⟨q, d, by rw [hln.out]; rfl, by rw [hln.out]; exact hqd, hdm, hE.out, hq⟩, hD.out, hM.out⟩
end Go.Proofs.Ytpbmeeogledmdae
