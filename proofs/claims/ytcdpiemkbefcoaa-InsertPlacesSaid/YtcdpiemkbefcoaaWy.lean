/-
  Layer 11, the program's: way, Detour.
-/
import Derived.Test.YtcdpiemkbefcoaaDt
namespace Go.Proofs.Ytcdpiemkbefcoaa
open Go.RowKit

/-- the way on, from a place, by others, to home -/
def wayR (hx hy : Int) : Int → Int → List (Int × Int) → Int → Int
  | ax, ay, [], n => wrap64 (n + dsP ax ay hx hy)
  | ax, ay, p :: r, n => wayR hx hy p.1 p.2 r (wrap64 (n + dsP ax ay p.1 p.2))
def wayL : List (Int × Int) → Int
  | [] => 0
  | h :: r => wayR h.1 h.2 h.1 h.2 r 0
def zP : Int × Int := (0, 0)
/-- what is still to come, at place k -/
def wayK (L : List (Int × Int)) (k : Nat) (n : Int) : Int :=
  if k < L.length then wayR (L.getD 0 zP).1 (L.getD 0 zP).2 (L.getD k zP).1 (L.getD k zP).2 (L.drop (k + 1)) n else n
theorem wayK_zero {L : List (Int × Int)} (h : 0 < L.length) : wayK L 0 0 = wayL L := by
  cases L with
  | nil => cases h
  | cons p r => simp [wayK, wayL]
theorem wayK_step {L : List (Int × Int)} {k m : Nat} (h : k < L.length) (hm : m = (k + 1) % L.length) (n : Int) :
    wayK L k n = wayK L (k + 1) (wrap64 (n + dsP (L.getD k zP).1 (L.getD k zP).2 (L.getD m zP).1 (L.getD m zP).2)) := by
  unfold wayK
  rw [if_pos h]
  by_cases h1 : k + 1 < L.length
  · rw [if_pos h1, hm, Nat.mod_eq_of_lt h1, List.drop_eq_getElem_cons h1]
    simp [wayR, h1]
  · have h2 : k + 1 = L.length := by omega
    rw [if_neg h1, hm, h2, Nat.mod_self, List.drop_length]
    simp [wayR]
theorem run_rem64 {ρ : Operand → Value} {o : Oper} {w : World} {x y : Operand} {n m : Int} {r : Nat} (ho : o.op = .binOp .rem 3 x y 3) (hx : ρ x = .int .i64 n) (hy : ρ y = .int .i64 m) (hn : 0 ≤ n) (hm : 0 < m) (hr : (r : Int) = n % m) (hb : m ≤ 9223372036854775807) :
    (execOp ρ o).run Try.prog w = .ok (.value (.int .i64 r)) w := by
  have h0 : ¬ m = 0 := by omega
  have h1 : n.tmod m = n % m := Int.tmod_eq_emod_of_nonneg hn
  have h2 : 0 ≤ n % m := Int.emod_nonneg _ h0
  have h3 : n % m < m := Int.emod_lt_of_pos _ hm
  have h4 : IntKind.i64.wrap (n % m) = n % m := IntWalk.i64_in _ (by omega)
  unfold execOp
  simp only [ho, hx, hy]
  go_simp
theorem run_ixP {ρ : Operand → Value} {o : Oper} {w : World} {x y : Operand} {a : Addr} {n c k : Nat} (ho : o.op = .indexAddr 80 x y) (hx : ρ x = .slice (some a) n c) (hy : ρ y = .int .i64 k) (hk : k < n) : (execOp ρ o).run Try.prog w = .ok (.value (.pointer (some (a.add (k * 2))))) w := by
  have h0 : (0 : Int) ≤ (k : Int) := by omega
  have h1 : (k : Int) < (n : Int) := by omega
  have h2 : ((k : Int)).toNat = k := by omega
  unfold execOp
  simp only [ho, hx, hy]
  go_simp

set_option maxHeartbeats 2000000 in
set_option maxRecDepth 100000 in
theorem way_calls (p : Option Addr) (c : Nat) (L : List (Int × Int)) (w : World) (hE : Els w p 2 (L.map stV)) (h0 : 0 < L.length) :
    Calls Try.prog 33 #[.slice p L.length c] w fun e w' => e = .returned (.int .i64 (wayL L)) ∧ Below w.heap.size w w' := by
  have hbig : L.length ≤ 140737488351232 := by simpa using hE.big
  have hX := wayK_zero h0
  generalize wayL L = X at hX ⊢
  replace hX := Lib.hid hX
  obtain ⟨a, rfl⟩ := hE.some_of (k := 0) (by simpa using h0)
  replace hE := Lib.hid hE
  go_enter Try.func33, Try.ntmps33
  go_wp2_with fail
  go_loopw [2, 7] (fun o i wr => ∃ (k : Nat) (n : Int), k ≤ L.length ∧ i = .int .i64 k ∧ o = .int .i64 n ∧ Hid (wayK L k n = X) ∧ Below w.heap.size w wr) (fun _ i _ => L.length - (intOf i).toNat)
  case atStart => exact ⟨0, 0, Nat.zero_le _, rfl, rfl, hX, Below.refl _ _⟩
  case round =>
    obtain ⟨k, n, hk, rfl, rfl, hK, hbr⟩ := hrel
    by_cases hlt : k < L.length
    · have hltI : (k : Int) < (L.length : Int) := by omega
      have s1 : IntKind.i64.wrap ((k : Int) + 1) = (k : Int) + 1 := IntWalk.i64_in _ (by omega)
      obtain ⟨m, hm⟩ : ∃ m, m = (k + 1) % L.length := ⟨_, rfl⟩
      have hml : m < L.length := by rw [hm]; exact Nat.mod_lt _ h0
      have hmi : (m : Int) = ((k : Int) + 1) % (L.length : Int) := by rw [hm]; simp
      have hld := Lib.hid (fun (j : Nat) (hj : j < L.length) (wx : World) (hb : Below w.heap.size w wx) => (by
        have h := (hE.out.below hb).load (P := Try.prog) (a := a) rfl (k := j) (by simpa using hj) (ty := 26) Try.underlying26 rfl (by kernel_rfl)
        rw [List.getElem_map] at h
        have e : L[j] = L.getD j zP := by simp [hj]
        rw [e] at h
        exact h : (loadVar 26 (a.add (j * 2))).run Try.prog wx = .ok (.agg #[.int .i64 (L.getD j zP).1, .int .i64 (L.getD j zP).2]) wx))
      have hk1 := hK.out
      rw [wayK_step hlt hm] at hk1
      have hl1 := Lib.hid (hld.out k hlt wr hbr)
      have hl2 := Lib.hid (fun wx (hb : Below w.heap.size w wx) => hld.out m hml wx hb)
      generalize L.getD k zP = u at hk1 hl1
      generalize L.getD m zP = v at hk1 hl2
      have hdc := Lib.hid (fun wx => dist_calls u.1 u.2 v.1 v.2 wx)
      generalize dsP u.1 u.2 v.1 v.2 = d at hk1 hdc
      replace hk1 := Lib.hid hk1
      have hB := Lib.hid (Blk.new wr #[.int .i64 u.1, .int .i64 u.2] 26)
      have hb1 := Lib.hid (hbr.alloc hbr.size (.cells #[.int .i64 u.1, .int .i64 u.2] 26))
      replace hmi := Lib.hid hmi
      replace hm := Lib.hid hm
      clear hK hld
      go_upto_region 4 with (first | (refine wpList_load_v rfl 26 _ rfl (a.add (k * 2)) rfl _ hl1.out ?_))
      obtain ⟨W1, hW1⟩ : ∃ W1, wr.alloc (.cells #[.int .i64 u.1, .int .i64 u.2] 26) = W1 := ⟨_, rfl⟩
      rw [hW1] at hB hb1 ⊢
      have hlA : Hid (∀ z : Later (fun _ => False) W1, (loadVar 26 ⟨wr.heap.size, 0, none⟩).run Try.prog z.val = .ok (.agg #[.int .i64 u.1, .int .i64 u.2]) z.val) := Lib.hid (fun z => run_load_row' (P := Try.prog) z.val wr.heap.size 26 _ 26 _ (hB.out.mod z.mod (fun h => h)) Try.underlying26 rfl (by kernel_rfl))
      have hlB : Hid (∀ z : Later (fun _ => False) W1, (loadVar 26 (a.add (m * 2))).run Try.prog z.val = .ok (.agg #[.int .i64 v.1, .int .i64 v.2]) z.val) := Lib.hid (fun z => hl2.out _ (hb1.out.trans (z.mod.below hb1.out.size (fun _ h => h.elim))))
      clear hW1 hB hl1 hl2 hbr
      refine wp_region_later (w0 := W1) (S := fun _ => False) (Mod.refl _ _) (by kernel_rfl) (by kernel_rfl) ?_
      go_big_quiet_step (fail)
      refine wpQuiet_v rfl (.agg #[.int .i64 u.1, .int .i64 u.2]) (by rintro _ ⟨z, rfl⟩; exact run_load_v rfl rfl (hlA.out z)) ?_
      simp only [Act.put, List.setIfInBounds_toArray, List.set_cons_succ, List.set_cons_zero]
      go_big_quiet_step (fail)
      go_big_quiet_step (fail)
      go_big_quiet_step (fail)
      go_big_quiet_step (fail)
      go_big_quiet_step (fail)
      refine wpQuiet_v rfl (.int .i64 m) (by rintro _ ⟨z, rfl⟩; exact run_rem64 rfl rfl rfl (by omega) (by omega) hmi.out (by omega)) ?_
      simp only [Act.put, List.setIfInBounds_toArray, List.set_cons_succ, List.set_cons_zero]
      refine wpQuiet_v rfl (.pointer (some (a.add (m * 2)))) (by rintro _ ⟨z, rfl⟩; exact run_ixP rfl rfl rfl hml) ?_
      simp only [Act.put, List.setIfInBounds_toArray, List.set_cons_succ, List.set_cons_zero]
      refine wpQuiet_v rfl (.agg #[.int .i64 v.1, .int .i64 v.2]) (by rintro _ ⟨z, rfl⟩; exact run_load_v rfl rfl (hlB.out z)) ?_
      simp only [Act.put, List.setIfInBounds_toArray, List.set_cons_succ, List.set_cons_zero]
      go_big_quiet_step (((go_at_call 44; with_reducible exact Calls.later (hdc.out _))))
      go_big_quiet_step (fail)
      go_big_quiet_step (fail)
      refine wpQuiet_nil ?_
      rintro _ ⟨z, rfl⟩
      have hb2 := Lib.hid (hb1.out.trans (z.mod.below hb1.out.size (fun _ h => h.elim)))
      clear hlA hlB hb1 hdc hmi hm
      generalize z.val = w2 at *
      clear z
      go_wp2_with fail
      go_roundw
      case rel => exact ⟨k + 1, _, by omega, by simp, rfl, hk1, hb2.out⟩
      case measure => simp [intOf]; omega
    · obtain rfl : k = L.length := by omega
      obtain rfl : n = X := by
        have := hK.out
        unfold wayK at this
        rw [if_neg (by omega)] at this
        exact this
      clear hK
      go_wp2
      go_ret
      exact ⟨rfl, hbr⟩
end Go.Proofs.Ytcdpiemkbefcoaa
