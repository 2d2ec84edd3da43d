/-
  'InsertPlaces': it returns true.
-/
import Derived.Test.YtcdpiemkbefcoaaPr
namespace Go.Proofs.Ytcdpiemkbefcoaa
open Go.RowKit
attribute [local go_sem] Oper.semAt_some

theorem run_ixA {ρ : Operand → Value} {o : Oper} {w : World} {x y : Operand} {a : Addr} {n c k : Nat} (ho : o.op = .indexAddr 38 x y) (hx : ρ x = .slice (some a) n c) (hy : ρ y = .int .i64 k) (hk : k < n) : (execOp ρ o).run Try.prog w = .ok (.value (.pointer (some (a.add (k * 2))))) w := by
  have h0 : (0 : Int) ≤ (k : Int) := by omega
  have h1 : (k : Int) < (n : Int) := by omega
  have h2 : ((k : Int)).toNat = k := by omega
  unfold execOp
  simp only [ho, hx, hy]
  go_simp
/-- a pair out of a row -/
theorem ld_pair {w : World} {a : Addr} {L : List (Int × Int)} {k : Nat} {x : Int × Int} (h : Els w (some a) 2 (L.map stV)) (hx : L[k]? = some x) : (loadVar 41 (a.add (k * 2))).run Try.prog w = .ok (.agg #[.int .i64 x.1, .int .i64 x.2]) w := by
  obtain ⟨hk, hkx⟩ := List.getElem?_eq_some_iff.1 hx
  have := h.load (P := Try.prog) (a := a) rfl (k := k) (by simpa using hk) (ty := 41) Try.underlying41 rfl (by kernel_rfl)
  rw [List.getElem_map, hkx] at this
  exact this

set_option maxHeartbeats 2000000 in
set_option maxRecDepth 100000 in
theorem InsertPlaces_walk (n m : Int) (w : World) (hm : 0 ≤ m ∧ m < 256) :
    Calls Try.prog 5 #[.int .i64 n, .int .u8 m] w fun e w' => e = .returned (.bool true) ∧ Below w.heap.size w w' := by
  have hWK := Lib.hid works_calls
  have s1 : IntKind.i64.wrap m = m := IntWalk.i64_in _ (by omega)
  have s2 : IntKind.i64.wrap (1 + m) = 1 + m := IntWalk.i64_in _ (by omega)
  have hle := prs_le n
  have hrp := Lib.hid (rplaces_calls n)
  have hp1 := Lib.hid (fun w => pairs_calls n (1 + m) w (by omega))
  have hp0 := Lib.hid (fun w => pairs_calls n 0 w (by omega))
  have e0 : prT n 0 = prs n := by simp [prT]
  have e1 : prT n (1 + m) = (prs n).take (1 + m).toNat := by unfold prT; rw [if_pos (by omega)]
  rw [e0] at hp0
  rw [e1] at hp1
  generalize prs n = L at *
  have hlS : ((L.take (1 + m).toNat).length : Int) = if (L.length : Int) < 1 + m then (L.length : Int) else 1 + m := by
    rw [List.length_take]
    by_cases h : (L.length : Int) < 1 + m
    · rw [if_pos h]; omega
    · rw [if_neg h]; omega
  have hSk : ∀ k : Nat, k < (L.take (1 + m).toNat).length → (L.take (1 + m).toNat)[k]? = L[k]? := fun k hk => by
    rw [List.getElem?_take_of_lt (by rw [List.length_take] at hk; omega)]
  generalize L.take (1 + m).toNat = S at *
  replace hSk := Lib.hid hSk
  clear e0 e1
  go_enter Try.func5, Try.ntmps5
  go_wp2_with fail
  refine (hrp.out _).mono ?_
  rintro e w1 ⟨⟨q1, d1, rfl, hE1⟩, hb⟩
  go_wp2_with fail
  refine (hp1.out _).mono ?_
  rintro e w2 ⟨⟨q2, d2, rfl, hE2⟩, hb2⟩
  replace hE1 := hE1.below hb2
  replace hb := hb.trans (hb2.mono hb.size)
  go_wp2_with fail
  refine (hp0.out _).mono ?_
  rintro e w3 ⟨⟨q3, d3, rfl, hE3⟩, hb3⟩
  replace hE1 := hE1.below hb3
  replace hE2 := hE2.below hb3
  replace hb := hb.trans (hb3.mono hb.size)
  clear hb2 hb3 hrp hp1 hp0
  go_upto_region 4 with fail
  go_upto_region 6 with fail
  clear hlS
  generalize (if (L.length : Int) < 1 + m then (L.length : Int) else 1 + m) = mn
  replace hE1 := Lib.hid hE1
  replace hE2 := Lib.hid hE2
  replace hE3 := Lib.hid hE3
  replace hb := Lib.hid hb
  go_wp2_with fail
  go_loopw [8] (fun i wr => ∃ k : Nat, k ≤ L.length ∧ i = .int .i64 k ∧ Below w.heap.size w wr ∧ Els wr q1 2 (L.map stV) ∧ Els wr q2 2 (S.map stV) ∧ Els wr q3 2 (L.map stV)) (fun i _ => L.length - (intOf i).toNat)
  case atStart => exact ⟨0, Nat.zero_le _, rfl, hb.out, hE1.out, hE2.out, hE3.out⟩
  case round =>
    clear hb hE1 hE2 hE3
    obtain ⟨k, hk, rfl, hbr, hE1, hE2, hE3⟩ := hrel
    by_cases hlt : k < L.length
    · have hltI : (k : Int) < (L.length : Int) := by omega
      have s3 : IntKind.i64.wrap ((k : Int) + 1) = (k : Int) + 1 := IntWalk.i64_in _ (by omega)
      obtain ⟨x, hx⟩ : ∃ x, L[k]? = some x := ⟨_, List.getElem?_eq_getElem hlt⟩
      obtain ⟨a1, rfl⟩ := hE1.some_of (k := k) (by simpa using hlt)
      obtain ⟨a3, rfl⟩ := hE3.some_of (k := k) (by simpa using hlt)
      have h1z := Lib.hid (fun z : Later (fun _ => False) wr => ld_pair (hE1.mod z.mod (fun _ _ h => h)) hx)
      have h3z := Lib.hid (fun z : Later (fun _ => False) wr => ld_pair (hE3.mod z.mod (fun _ _ h => h)) hx)
      replace hE1 := Lib.hid hE1
      replace hE3 := Lib.hid hE3
      replace hbr := Lib.hid hbr
      replace hx := Lib.hid hx
      by_cases hl2 : k < S.length
      · have hl2I : (k : Int) < (S.length : Int) := by omega
        have hx2 := Lib.hid ((hSk.out k hl2).trans hx.out)
        obtain ⟨a2, rfl⟩ := hE2.some_of (k := k) (by simpa using hl2)
        have h2z := Lib.hid (fun z : Later (fun _ => False) wr => ld_pair (hE2.mod z.mod (fun _ _ h => h)) hx2.out)
        replace hE2 := Lib.hid hE2
        go_upto_region 9 with fail
        refine wp_region_later (w0 := wr) (S := fun _ => False) (Mod.refl _ _) (by kernel_rfl) (by kernel_rfl) ?_
        go_big_quiet_step (fail)
        go_big_quiet_step (fail)
        refine wpQuiet_v (by kernel_rfl) (.pointer (some (a3.add (k * 2)))) (by rintro _ ⟨z, rfl⟩; exact run_ixA rfl rfl rfl (by omega)) ?_
        simp only [Act.put, List.setIfInBounds_toArray, List.set_cons_succ, List.set_cons_zero]
        refine wpQuiet_v (by kernel_rfl) (.agg #[.int .i64 x.1, .int .i64 x.2]) (by rintro _ ⟨z, rfl⟩; exact run_load_v rfl rfl (h3z.out z)) ?_
        simp only [Act.put, List.setIfInBounds_toArray, List.set_cons_succ, List.set_cons_zero]
        go_big_quiet_step (fail)
        go_big_quiet_step (fail)
        refine wpQuiet_v (by kernel_rfl) (.pointer (some (a1.add (k * 2)))) (by rintro _ ⟨z, rfl⟩; exact run_ixA rfl rfl rfl (by omega)) ?_
        simp only [Act.put, List.setIfInBounds_toArray, List.set_cons_succ, List.set_cons_zero]
        refine wpQuiet_v (by kernel_rfl) (.agg #[.int .i64 x.1, .int .i64 x.2]) (by rintro _ ⟨z, rfl⟩; exact run_load_v rfl rfl (h1z.out z)) ?_
        simp only [Act.put, List.setIfInBounds_toArray, List.set_cons_succ, List.set_cons_zero]
        refine wpQuiet_v (by kernel_rfl) (.bool false) (by rintro _ ⟨z, rfl⟩; exact run_neqS rfl rfl rfl) ?_
        simp only [Act.put, List.setIfInBounds_toArray, List.set_cons_succ, List.set_cons_zero]
        go_big_quiet_step (fail)
        go_big_quiet_step (fail)
        go_big_quiet_step (fail)
        go_big_quiet_step (fail)
        go_big_quiet_step (fail)
        go_big_quiet_step (fail)
        go_big_quiet_step (fail)
        go_big_quiet_step (fail)
        refine wpQuiet_v (by kernel_rfl) (.pointer (some (a2.add (k * 2)))) (by rintro _ ⟨z, rfl⟩; exact run_ixA rfl rfl rfl (by omega)) ?_
        simp only [Act.put, List.setIfInBounds_toArray, List.set_cons_succ, List.set_cons_zero]
        refine wpQuiet_v (by kernel_rfl) (.agg #[.int .i64 x.1, .int .i64 x.2]) (by rintro _ ⟨z, rfl⟩; exact run_load_v rfl rfl (h2z.out z)) ?_
        simp only [Act.put, List.setIfInBounds_toArray, List.set_cons_succ, List.set_cons_zero]
        go_big_quiet_step (fail)
        go_big_quiet_step (fail)
        refine wpQuiet_v (by kernel_rfl) (.pointer (some (a1.add (k * 2)))) (by rintro _ ⟨z, rfl⟩; exact run_ixA rfl rfl rfl (by omega)) ?_
        simp only [Act.put, List.setIfInBounds_toArray, List.set_cons_succ, List.set_cons_zero]
        refine wpQuiet_v (by kernel_rfl) (.agg #[.int .i64 x.1, .int .i64 x.2]) (by rintro _ ⟨z, rfl⟩; exact run_load_v rfl rfl (h1z.out z)) ?_
        simp only [Act.put, List.setIfInBounds_toArray, List.set_cons_succ, List.set_cons_zero]
        refine wpQuiet_v (by kernel_rfl) (.bool false) (by rintro _ ⟨z, rfl⟩; exact run_neqS rfl rfl rfl) ?_
        simp only [Act.put, List.setIfInBounds_toArray, List.set_cons_succ, List.set_cons_zero]
        go_big_quiet_step (fail)
        go_big_quiet_step (fail)
        refine wpQuiet_nil ?_
        rintro _ ⟨z, rfl⟩
        have hb2 := Lib.hid (hbr.out.trans (z.mod.below hbr.out.size (fun _ h => h.elim)))
        have e1 := Lib.hid (hE1.out.mod z.mod (fun _ _ h => h))
        have e2 := Lib.hid (hE2.out.mod z.mod (fun _ _ h => h))
        have e3 := Lib.hid (hE3.out.mod z.mod (fun _ _ h => h))
        clear hE1 hE2 hE3 hbr h1z h3z h2z
        generalize z.val = w4 at *
        go_wp2_with fail
        go_roundw
        case rel => exact ⟨k + 1, by omega, by simp, hb2.out, e1.out, e2.out, e3.out⟩
        case measure => simp [intOf]; omega
      · have hl2I : ¬ (k : Int) < (S.length : Int) := by omega
        replace hE2 := Lib.hid hE2
        go_upto_region 9 with fail
        refine wp_region_later (w0 := wr) (S := fun _ => False) (Mod.refl _ _) (by kernel_rfl) (by kernel_rfl) ?_
        go_big_quiet_step (fail)
        go_big_quiet_step (fail)
        refine wpQuiet_v (by kernel_rfl) (.pointer (some (a3.add (k * 2)))) (by rintro _ ⟨z, rfl⟩; exact run_ixA rfl rfl rfl (by omega)) ?_
        simp only [Act.put, List.setIfInBounds_toArray, List.set_cons_succ, List.set_cons_zero]
        refine wpQuiet_v (by kernel_rfl) (.agg #[.int .i64 x.1, .int .i64 x.2]) (by rintro _ ⟨z, rfl⟩; exact run_load_v rfl rfl (h3z.out z)) ?_
        simp only [Act.put, List.setIfInBounds_toArray, List.set_cons_succ, List.set_cons_zero]
        go_big_quiet_step (fail)
        go_big_quiet_step (fail)
        refine wpQuiet_v (by kernel_rfl) (.pointer (some (a1.add (k * 2)))) (by rintro _ ⟨z, rfl⟩; exact run_ixA rfl rfl rfl (by omega)) ?_
        simp only [Act.put, List.setIfInBounds_toArray, List.set_cons_succ, List.set_cons_zero]
        refine wpQuiet_v (by kernel_rfl) (.agg #[.int .i64 x.1, .int .i64 x.2]) (by rintro _ ⟨z, rfl⟩; exact run_load_v rfl rfl (h1z.out z)) ?_
        simp only [Act.put, List.setIfInBounds_toArray, List.set_cons_succ, List.set_cons_zero]
        refine wpQuiet_v (by kernel_rfl) (.bool false) (by rintro _ ⟨z, rfl⟩; exact run_neqS rfl rfl rfl) ?_
        simp only [Act.put, List.setIfInBounds_toArray, List.set_cons_succ, List.set_cons_zero]
        go_big_quiet_step (fail)
        go_big_quiet_step (fail)
        go_big_quiet_step (fail)
        go_big_quiet_step (fail)
        go_big_quiet_step (fail)
        go_big_quiet_step (fail)
        go_big_quiet_step (fail)
        go_big_quiet_step (fail)
        go_big_quiet_step (fail)
        go_big_quiet_step (fail)
        go_big_quiet_step (fail)
        go_big_quiet_step (fail)
        go_big_quiet_step (fail)
        go_big_quiet_step (fail)
        go_big_quiet_step (fail)
        go_big_quiet_step (fail)
        go_big_quiet_step (fail)
        refine wpQuiet_nil ?_
        rintro _ ⟨z, rfl⟩
        have hb2 := Lib.hid (hbr.out.trans (z.mod.below hbr.out.size (fun _ h => h.elim)))
        have e1 := Lib.hid (hE1.out.mod z.mod (fun _ _ h => h))
        have e2 := Lib.hid (hE2.out.mod z.mod (fun _ _ h => h))
        have e3 := Lib.hid (hE3.out.mod z.mod (fun _ _ h => h))
        clear hE1 hE2 hE3 hbr h1z h3z
        generalize z.val = w4 at *
        go_wp2_with fail
        go_roundw
        case rel => exact ⟨k + 1, by omega, by simp, hb2.out, e1.out, e2.out, e3.out⟩
        case measure => simp [intOf]; omega
    · obtain rfl : k = L.length := by omega
      replace hbr := Lib.hid hbr
      clear hE1 hE2 hE3
      go_wp2_with fail
      refine (hWK.out _).mono ?_
      rintro e w5 ⟨rfl, hb5⟩
      replace hb5 := hbr.out.trans (hb5.mono hbr.out.size)
      clear hWK
      go_wp2_with fail
      go_ret
      exact ⟨rfl, hb5⟩
theorem InsertPlaces_calls (n : Int) (_ : (Lit.int .i64 n).wf = true) (m : Int) (hm : (Lit.int .u8 m).wf = true) (w : World) :
    Calls Try.prog 5 #[.int .i64 n, .int .u8 m] w fun e w' => e = .returned (.bool true) ∧ Below w.heap.size w w' :=
  InsertPlaces_walk n m w (by
    simp only [Lit.wf, IntKind.min, IntKind.max, IntKind.signed, IntKind.bits, Bool.and_eq_true] at hm
    simp at hm
    omega)
end Go.Proofs.Ytcdpiemkbefcoaa
