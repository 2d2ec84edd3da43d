/-
  'InsertOdd': it returns true.
-/
import Derived.Test.YtcdpiemkbefcoaaRa
import Derived.Test.YtcdpiemkbefcoaaWk
namespace Go.Proofs.Ytcdpiemkbefcoaa
open Go.RowKit

section
variable {P : Program} {ρ : Operand → Value} {o : Oper} {w : World} {x y : Operand} {p : Option Addr} {n c k : Nat}
theorem run_slH {T : TypeId} {s : Nat} (hT : P.underlying T = some (.slice (P.elem T))) (hs : (sizeOf (P.elem T)).run P w = .ok s w) (ho : o.op = .slice T x none (some y) none) (hx : ρ x = .slice p n c) (hy : ρ y = .int .i64 k) (h1 : k ≤ c) :
    (execOp ρ o).run P w = .ok (.value (.slice p k c)) w := by
  have h := run_slice_h (P := P) w T p n c hT .i64 (k : Int) (by omega) (by omega)
  rw [← run_sliceAt_slice (P := P) w T (.slice p n c) _ _ _ hT, hs] at h
  simp only [Result.andThen_ok, Int.toNat_natCast, sliced] at h
  have e : (if c = 0 then p else p.map (·.add (0 * s))) = p := by
    split
    · rfl
    · cases p with
      | none => rfl
      | some a => rw [Nat.zero_mul]; rfl
  rw [e, Nat.sub_zero, Nat.sub_zero] at h
  unfold execOp
  simp only [ho, hx, hy, Option.map_some, Option.map_none, Sem.run_bind, h, Sem.run_pure, Result.andThen_ok]
end
section
variable {ρ : Operand → Value} {o : Oper} {w : World} {x y : Operand}
theorem run_minc {m a b : Int} (hm : m = if b < a then b else a) (ho : o.op = .call { callee := .builtin .min, args := #[x, y], argTypes := #[3, 3] }) (hx : ρ x = .int .i64 a) (hy : ρ y = .int .i64 b) :
    (execOp ρ o).run Try.prog w = .ok (.value (.int .i64 m)) w := by
  subst hm
  unfold execOp
  simp only [ho]
  go_simp
end
theorem min_nat (n k : Nat) : ((Nat.min n k : Nat) : Int) = if (k : Int) < (n : Int) then (k : Int) else (n : Int) := by
  by_cases h : (k : Int) < (n : Int)
  · rw [if_pos h]; congr 1; exact Nat.min_eq_right (by omega)
  · rw [if_neg h]; congr 1; exact Nat.min_eq_left (by omega)

set_option maxHeartbeats 4000000 in
set_option maxRecDepth 100000 in
theorem InsertOdd_walk (x y cp st en a0 a1 a2 : Int) (p p' : Option Addr) (n n' c c' m m' : Nat) (l : List (Int × Int)) (t : List Rq) (w : World)
    (hm : m = Nat.min n 30) (hm' : m' = Nat.min n' 30) (hl : l.length = m) (ht : t.length = m') (hL : Els w p 2 (l.map stV)) (hT : Els w p' 10 (t.map rqV)) (hc : n ≤ c ∧ c ≤ 9223372036854775807) (hc' : n' ≤ c' ∧ c' ≤ 9223372036854775807) :
    Calls Try.prog 4 #[.agg #[.int .i64 x, .int .i64 y, .int .i64 cp, .int .i64 st, .int .i64 en], .slice p n c, .slice p' n' c', .agg #[.int .i64 a0, .int .i64 a1, .int .i64 a2]] w fun e w' => e = .returned (.bool true) ∧ Below w.heap.size w w' := by
  have hmI : (m : Int) = if ((30 : Nat) : Int) < (n : Int) then ((30 : Nat) : Int) else (n : Int) := by rw [hm]; exact min_nat n 30
  have hmI' : (m' : Int) = if ((30 : Nat) : Int) < (n' : Int) then ((30 : Nat) : Int) else (n' : Int) := by rw [hm']; exact min_nat n' 30
  have hmc : m ≤ c ∧ m ≤ 30 := by have := Nat.min_le_left n 30; have := Nat.min_le_right n 30; simp only [Nat.min_def] at hm; split at hm <;> omega
  have hmc' : m' ≤ c' ∧ m' ≤ 30 := by simp only [Nat.min_def] at hm'; split at hm' <;> omega
  have hal := Lib.hid (fun wx (h : Below w.heap.size w wx) req i j => (by
    have := alike_calls x y cp st en req i j p p' c c' l t wx (hL.below h) ⟨by omega, hc.2⟩ (hT.below h)
    rwa [hl, ht] at this : Calls Try.prog 11 #[.agg #[.int .i64 x, .int .i64 y, .int .i64 cp, .int .i64 st, .int .i64 en], .slice p m c, .slice p' m' c', .int .i64 req, .int .i64 i, .int .i64 j] wx fun e w' => e = .returned (.bool true) ∧ Below wx.heap.size wx w'))
  have hwk := Lib.hid works_calls
  clear hL hT hm hm' hl ht l t
  replace hmI := Lib.hid hmI
  replace hmI' := Lib.hid hmI'
  obtain ⟨V, hV⟩ : ∃ V : Array Value, #[.int .i64 x, .int .i64 y, .int .i64 cp, .int .i64 st, .int .i64 en] = V := ⟨_, rfl⟩
  have hsV : V.size = 5 := by rw [← hV]; rfl
  have hlv := Lib.hid (fun wx (h : Blk wx w.heap.size V 28) => run_load_row' (P := Try.prog) wx w.heap.size 28 V 28 _ h Try.underlying28 rfl (by rw [hsV]; kernel_rfl))
  rw [hV] at hal ⊢
  clear hV hsV
  go_enter Try.func4, Try.ntmps4
  go_upto_region 1 with fail
  refine wp_world' (fun wx => Blk wx w.heap.size V 28 ∧ Blk wx (w.heap.size + 1) #[.int .i64 a0, .int .i64 a1, .int .i64 a2] 36 ∧ Below w.heap.size w wx) ⟨(Blk.new _ _ _).alloc _, Blk.new' _ _ _ _, (new_below _ _).alloc (by simp) _⟩ ?_
  rintro w1 ⟨hB, hA, hb⟩
  refine wp_region_later (w0 := w1) (S := fun _ => False) (Mod.refl _ _) (by kernel_rfl) (by kernel_rfl) ?_
  go_big_quiet_step (fail)
  go_big_quiet_step (fail)
  go_big_quiet_step (fail)
  refine wpQuiet_v (by kernel_rfl) (.int .i64 m) (by rintro _ ⟨z, rfl⟩; exact run_minc hmI.out rfl rfl rfl) ?_
  simp only [Act.put, List.setIfInBounds_toArray, List.set_cons_succ, List.set_cons_zero]
  refine wpQuiet_v (by kernel_rfl) (.slice p m c) (by rintro _ ⟨z, rfl⟩; exact run_slH (s := 2) (by kernel_rfl) (by kernel_rfl) rfl rfl rfl hmc.1) ?_
  simp only [Act.put, List.setIfInBounds_toArray, List.set_cons_succ, List.set_cons_zero]
  go_big_quiet_step (fail)
  go_big_quiet_step (fail)
  go_big_quiet_step (fail)
  refine wpQuiet_v (by kernel_rfl) (.int .i64 m') (by rintro _ ⟨z, rfl⟩; exact run_minc hmI'.out rfl rfl rfl) ?_
  simp only [Act.put, List.setIfInBounds_toArray, List.set_cons_succ, List.set_cons_zero]
  refine wpQuiet_v (by kernel_rfl) (.slice p' m' c') (by rintro _ ⟨z, rfl⟩; exact run_slH (s := 10) (by kernel_rfl) (by kernel_rfl) rfl rfl rfl hmc'.1) ?_
  simp only [Act.put, List.setIfInBounds_toArray, List.set_cons_succ, List.set_cons_zero]
  go_big_quiet_step (fail)
  go_big_quiet_step (fail)
  refine wpQuiet_nil ?_
  rintro _ ⟨z, rfl⟩
  have hb2 := hb.trans (z.mod.below hb.size (fun _ h => h.elim))
  have hB2 := hB.mod z.mod (fun h => h)
  have hA2 := hA.mod z.mod (fun h => h)
  generalize z.val = w2 at *
  clear hb hB hA z
  go_wp2_with fail
  go_loopw [9] (fun s9 wx => ∃ k : Nat, k ≤ m' + 2 ∧ s9 = .int .i64 ((k : Int) - 1) ∧ Below w.heap.size w wx ∧ Blk wx w.heap.size V 28 ∧ Blk wx (w.heap.size + 1) #[.int .i64 a0, .int .i64 a1, .int .i64 a2] 36) (fun s9 _ => m' + 2 - (intOf s9 + 1).toNat)
  case atStart => exact ⟨0, by omega, rfl, hb2, hB2, hA2⟩
  case round =>
    clear hb2 hB2 hA2
    obtain ⟨k, hk, rfl, hb, hB, hA⟩ := hrel
    by_cases hlt : k < m' + 2
    · have hltI : (k : Int) - 1 ≤ (m' : Int) := by omega
      have s1 : IntKind.i64.wrap ((k : Int) - 1 + 1) = (k : Int) - 1 + 1 := IntWalk.i64_in _ (by omega)
      have hl1 := Lib.hid (hlv.out _ hB)
      have k1 := hA.cell (i := 1) rfl
      have k2 := hA.cell (i := 2) rfl
      have hc1 := Lib.hid (hal.out _ hb ((k : Int) - 1) a1 a2)
      replace hB := Lib.hid hB
      replace hA := Lib.hid hA
      go_wp2_with (refine wpList_load_v rfl 28 _ rfl ⟨w.heap.size, 0, none⟩ rfl _ hl1.out ?_)
      refine hc1.out.mono ?_
      rintro e w3 ⟨rfl, hb3⟩
      have hB3 := Lib.hid (hB.out.mod ((Mod.refl (fun _ => False) _).after hb3) (fun h => h))
      have hA3 := Lib.hid (hA.out.mod ((Mod.refl (fun _ => False) _).after hb3) (fun h => h))
      replace hb3 := hb.trans (hb3.mono hb.size)
      have hl3 := Lib.hid (hlv.out _ hB3.out)
      have hc3 := Lib.hid (hal.out _ hb3 ((k : Int) - 1) 0 m)
      clear hc1 hl1 k1 k2 hB hA hb
      go_wp2_with (refine wpList_load_v rfl 28 _ rfl ⟨w.heap.size, 0, none⟩ rfl _ hl3.out ?_)
      refine hc3.out.mono ?_
      rintro e w4 ⟨rfl, hb4⟩
      have hB4 := Lib.hid (hB3.out.mod ((Mod.refl (fun _ => False) _).after hb4) (fun h => h))
      have hA4 := Lib.hid (hA3.out.mod ((Mod.refl (fun _ => False) _).after hb4) (fun h => h))
      replace hb4 := hb3.trans (hb4.mono hb3.size)
      clear hc3 hl3 hB3 hA3 hb3
      go_wp2_with fail
      go_roundw
      case rel => exact ⟨k + 1, by omega, congrArg _ (by omega), hb4, hB4.out, hA4.out⟩
      case measure => simp [intOf]; omega
    · have hltI : ¬ (k : Int) - 1 ≤ (m' : Int) := by omega
      have hl1 := Lib.hid (hlv.out _ hB)
      have k0 := hA.cell (i := 0) rfl
      have k1 := hA.cell (i := 1) rfl
      have k2 := hA.cell (i := 2) rfl
      have hc1 := Lib.hid (hal.out _ hb a0 a1 a2)
      replace hB := Lib.hid hB
      replace hA := Lib.hid hA
      go_wp2_with (refine wpList_load_v rfl 28 _ rfl ⟨w.heap.size, 0, none⟩ rfl _ hl1.out ?_)
      refine hc1.out.mono ?_
      rintro e w3 ⟨rfl, hb3⟩
      replace hb3 := hb.trans (hb3.mono hb.size)
      clear hc1 hl1 k0 k1 k2 hB hA hb hal hlv
      go_wp2_with fail
      refine (hwk.out _).mono ?_
      rintro e w4 ⟨rfl, hb4⟩
      replace hb4 := hb3.trans (hb4.mono hb3.size)
      clear hb3 hwk
      go_wp2_with fail
      go_ret
      exact ⟨rfl, hb4⟩
end Go.Proofs.Ytcdpiemkbefcoaa
