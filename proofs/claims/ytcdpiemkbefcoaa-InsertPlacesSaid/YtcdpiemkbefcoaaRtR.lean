/-
  The document's layer 6: count, Check.
-/
import Derived.Test.YtcdpiemkbefcoaaRt
namespace Go.Proofs.Ytcdpiemkbefcoaa
open Go.RowKit

theorem eql_stop (w : World) (a b c d : Int) : (binOp .eql 55 (.agg #[.int .i64 a, .int .i64 b]) (.agg #[.int .i64 c, .int .i64 d])).run Try.prog w = .ok (.bool (a == c && b == d)) w := by
  go_simp
  repeat' split
  all_goals simp_all
theorem stop_eq (x : Int × Int) (r q : Int) : (x.1 == r && x.2 == q) = decide (x = (r, q)) := by
  obtain ⟨a, b⟩ := x
  rw [Bool.eq_iff_iff]
  simp
set_option maxHeartbeats 1000000 in
set_option maxRecDepth 100000 in
theorem count_ref (p : Option Addr) (cap : Nat) (l : List (Int × Int)) (r q : Int) (w : World) (hE : Els w p 2 (l.map stV)) :
    Calls Try.prog 104 #[.slice p l.length cap, .agg #[.int .i64 r, .int .i64 q]] w fun e w' => e = .returned (.int .i64 (l.count (r, q))) ∧ Below w.heap.size w w' := by
  have hbig : l.length ≤ 140737488351232 := by simpa using hE.big
  replace hE := Lib.hid hE
  go_enter Try.func104, Try.ntmps104
  go_upto_region 1 with fail
  refine wp_world' (fun wx => Blk wx w.heap.size #[.int .i64 r, .int .i64 q] 55 ∧ Below w.heap.size w wx) ⟨Blk.new _ _ _, new_below _ _⟩ ?_
  rintro w1 ⟨hB1, hb1⟩
  have HB1 := Lib.hid hB1
  clear hB1
  go_wp2_with fail
  go_loopw [5, 6] (fun n i wr => ∃ k : Nat, k ≤ l.length ∧ i = .int .i64 k ∧ n = .int .i64 ((l.take k).count (r, q)) ∧ ∃ m, wr = w1.drewN m) (fun _ i _ => l.length - (intOf i).toNat)
  case atStart => exact ⟨0, Nat.zero_le _, rfl, by simp, 0, rfl⟩
  case round =>
    obtain ⟨k, hk, rfl, rfl, m, rfl⟩ := hrel
    by_cases hlt : k < l.length
    · have hltI : (k : Int) < (l.length : Int) := by omega
      have hk0 : (0 : Int) ≤ (k : Int) := by omega
      obtain ⟨a, rfl⟩ := (hE.out.below (Below.refl _ w)).some_of (k := k) (by simpa using hlt)
      have hla := Lib.hid (fun n => (hE.out.below (below_drewN hb1 n)).load (P := Try.prog) (a := a) rfl (k := k) (by simpa using hlt) (ty := 55) Try.underlying55 rfl (by kernel_rfl))
      have hlb := Lib.hid (fun n => run_load_row' (P := Try.prog) (w1.drewN n) w.heap.size 55 #[.int .i64 r, .int .i64 q] 55 _ HB1.out Try.underlying55 rfl (by kernel_rfl))
      have hne := Lib.hid (fun w => eql_stop w l[k].1 l[k].2 r q)
      have hcn : (l.take (k + 1)).count (r, q) = (l.take k).count (r, q) + if l[k] = (r, q) then 1 else 0 := by
        rw [List.take_succ_eq_append_getElem hlt, List.count_append, List.count_singleton]
        simp only [beq_iff_eq]
      have hcb : (l.take k).count (r, q) ≤ k := Nat.le_trans List.count_le_length (by rw [List.length_take]; omega)
      have s1 : IntKind.i64.wrap ((k : Int) + 1) = (k : Int) + 1 := IntWalk.i64_in _ (by omega)
      have s2 : IntKind.i64.wrap (((l.take k).count (r, q) : Nat) + (1 : Int)) = ((l.take k).count (r, q) : Nat) + (1 : Int) := IntWalk.i64_in _ (by omega)
      rw [stop_eq] at hne
      have hgf : decide (l[k] = (r, q)) = false → (l.take (k + 1)).count (r, q) = (l.take k).count (r, q) := fun h => by rw [hcn, if_neg (of_decide_eq_false h)]; rfl
      have hgt : decide (l[k] = (r, q)) = true → (l.take (k + 1)).count (r, q) = (l.take k).count (r, q) + 1 := fun h => by rw [hcn, if_pos (of_decide_eq_true h)]
      replace hgf := Lib.hid hgf
      replace hgt := Lib.hid hgt
      clear hcn
      generalize decide (l[k] = (r, q)) = g at hne hgf hgt
      go_upto_region 5 with fail
      refine wp_region_quiet_lit (by kernel_rfl) (by kernel_rfl) ?_
      go_big_quiet_step (fail)
      go_big_quiet_step (fail)
      go_big_quiet_step (fail)
      refine wpQuiet_v rfl (.agg #[.int .i64 l[k].1, .int .i64 l[k].2]) (by rintro _ ⟨j, rfl⟩; rw [World.drewN_drewN]; exact run_load_v rfl rfl ((hla.out _).trans (by rw [List.getElem_map]; rfl))) ?_
      simp only [Act.put, List.setIfInBounds_toArray, List.set_cons_succ, List.set_cons_zero]
      refine wpQuiet_v rfl (.agg #[.int .i64 r, .int .i64 q]) (by rintro _ ⟨j, rfl⟩; rw [World.drewN_drewN]; exact run_load_v rfl rfl (hlb.out _)) ?_
      simp only [Act.put, List.setIfInBounds_toArray, List.set_cons_succ, List.set_cons_zero]
      refine wpQuiet_v rfl (.bool g) (by rintro _ ⟨j, rfl⟩; exact run_bin_v rfl rfl rfl (by kernel_rfl) (hne.out _)) ?_
      simp only [Act.put, List.setIfInBounds_toArray, List.set_cons_succ, List.set_cons_zero]
      refine wpQuiet_nil ?_
      rintro _ ⟨j, rfl⟩
      rw [World.drewN_drewN]
      cases g
      · have HF := Lib.hid (hgf.out rfl)
        clear hgf hgt
        go_wp2
        go_roundw
        case rel => exact ⟨k + 1, by omega, by simp, by rw [HF.out], _, rfl⟩
        case measure => simp [intOf]; omega
      · have HF := Lib.hid (hgt.out rfl)
        clear hgf hgt
        go_wp2
        go_roundw
        case rel => exact ⟨k + 1, by omega, by simp, by rw [HF.out]; simp, _, rfl⟩
        case measure => simp [intOf]; omega
    · obtain rfl : k = l.length := by omega
      rw [List.take_length]
      go_wp2
      go_ret
      exact ⟨rfl, below_drewN hb1 _⟩
end Go.Proofs.Ytcdpiemkbefcoaa
