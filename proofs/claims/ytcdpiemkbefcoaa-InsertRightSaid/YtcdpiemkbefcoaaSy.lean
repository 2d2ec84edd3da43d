/-
  'stays', of the statements of layer 11: it returns true.
-/
import Derived.Test.YtcdpiemkbefcoaaTr
namespace Go.Proofs.Ytcdpiemkbefcoaa
open Go.RowKit

theorem neq_stop (w : World) (a b : Int) : (binOp .neq 55 (.agg #[.int .i64 a, .int .i64 b]) (.agg #[.int .i64 a, .int .i64 b])).run Try.prog w = .ok (.bool false) w := by
  go_simp
theorem neq_time (w : World) (a b c : Int) : (binOp .neq 98 (.agg #[.int .i64 a, .int .i64 b, .int .i64 c]) (.agg #[.int .i64 a, .int .i64 b, .int .i64 c])).run Try.prog w = .ok (.bool false) w := by
  go_simp
/-- no stop of a route that stays is earlier with the request -/
def StayP (req : Int) (i : Nat) (l : List (Int × Int)) (a : Tms) (more : List (Int × Int)) (b : Tms) : Prop :=
  l = woP more req ∧ a.length = l.length ∧ b.length = more.length ∧
    ∀ (n : Nat) (s : Int × Int), more[n]? = some s → s.1 ≠ req → ∃ v u, a[(woP (more.take n) req).length]? = some v ∧ b[n]? = some u ∧ v.2.1 ≤ u.2.1 ∧ v.2.2 ≤ u.2.2 ∧ ((woP (more.take n) req).length < i → v = u)
section
variable {ρ : Operand → Value} {o : Oper} {w : World} {x y : Operand}
theorem run_ixTm {a : Addr} {n c k : Nat} (ho : o.op = .indexAddr 66 x y) (hx : ρ x = .slice (some a) n c) (hy : ρ y = .int .i64 k) (hk : k < n) : (execOp ρ o).run Try.prog w = .ok (.value (.pointer (some (a.add (k * 3))))) w := by
  have h0 : (0 : Int) ≤ (k : Int) := by omega
  have h1 : (k : Int) < (n : Int) := by omega
  have h2 : ((k : Int)).toNat = k := by omega
  unfold execOp
  simp only [ho, hx, hy]
  go_simp
theorem run_ixSt {a : Addr} {n c k : Nat} (ho : o.op = .indexAddr 29 x y) (hx : ρ x = .slice (some a) n c) (hy : ρ y = .int .i64 k) (hk : k < n) : (execOp ρ o).run Try.prog w = .ok (.value (.pointer (some (a.add (k * 2))))) w := by
  have h0 : (0 : Int) ≤ (k : Int) := by omega
  have h1 : (k : Int) < (n : Int) := by omega
  have h2 : ((k : Int)).toNat = k := by omega
  unfold execOp
  simp only [ho, hx, hy]
  go_simp
theorem run_geqF {a b : Int} {v : Bool} (hv : decide (a ≥ b) = v) (ho : o.op = .binOp .geq 3 x y 3) (hx : ρ x = .int .i64 a) (hy : ρ y = .int .i64 b) : (execOp ρ o).run Try.prog w = .ok (.value (.bool v)) w := by
  subst hv
  unfold execOp
  simp only [ho, hx, hy]
  go_simp
theorem run_gtrF {a b : Int} {v : Bool} (hv : decide (a > b) = v) (ho : o.op = .binOp .gtr 3 x y 3) (hx : ρ x = .int .i64 a) (hy : ρ y = .int .i64 b) : (execOp ρ o).run Try.prog w = .ok (.value (.bool v)) w := by
  subst hv
  unfold execOp
  simp only [ho, hx, hy]
  go_simp
theorem run_lssF {a b : Int} {v : Bool} (hv : decide (a < b) = v) (ho : o.op = .binOp .lss 3 x y 3) (hx : ρ x = .int .i64 a) (hy : ρ y = .int .i64 b) : (execOp ρ o).run Try.prog w = .ok (.value (.bool v)) w := by
  subst hv
  unfold execOp
  simp only [ho, hx, hy]
  go_simp
end
set_option maxHeartbeats 4000000 in
set_option maxRecDepth 100000 in
theorem stays_calls (pl pa pm pb : Option Addr) (cl ca cm cb : Nat) (l more : List (Int × Int)) (a b : Tms) (req : Int) (i : Nat) (w : World) (hL : Els w pl 2 (l.map stV)) (hA : Els w pa 3 (a.map tmV)) (hM : Els w pm 2 (more.map stV)) (hB : Els w pb 3 (b.map tmV)) (hl : l.length ≤ 100) (hml : more.length ≤ 100)
    (hS : StayP req i l a more b) :
    Calls Try.prog 24 #[.slice pl l.length cl, .slice pa a.length ca, .slice pm more.length cm, .slice pb b.length cb, .int .i64 req, .int .i64 (i : Int)] w fun e w' => e = .returned (.bool true) ∧ Below w.heap.size w w' := by
  obtain ⟨e1, e2, e3, hS⟩ := hS
  rw [e2, e3]
  have hwl : ∀ n, (woP (more.take n) req).length ≤ n := fun n => Nat.le_trans (woP_len _ _) (by rw [List.length_take]; omega)
  have hat := Lib.hid (fun n s (h1 : more[n]? = some s) (h2 : s.1 ≠ req) => (wo_at h1 h2 : (woP more req)[(woP (more.take n) req).length]? = some s))
  rw [← e1] at hat
  have hfin := Lib.hid (show (woP (more.take more.length) req).length = l.length by rw [List.take_length, ← e1])
  have hsuc := Lib.hid (fun n (h : n < more.length) => congrArg List.length (woP_succ more req h))
  replace hS := Lib.hid hS
  replace hL := Lib.hid hL
  replace hA := Lib.hid hA
  replace hM := Lib.hid hM
  replace hB := Lib.hid hB
  replace hwl := Lib.hid hwl
  replace e2 := Lib.hid e2
  replace e3 := Lib.hid e3
  clear e1
  go_enter Try.func24, Try.ntmps24
  go_wp2_with fail
  go_loopw [13, 14] (fun k n wx => ∃ m : Nat, m ≤ more.length ∧ n = .int .i64 m ∧ k = .int .i64 ((woP (more.take m) req).length : Int) ∧ ∃ q, wx = w.drewN q) (fun _ n _ => more.length - (intOf n).toNat)
  case atStart => exact ⟨0, Nat.zero_le _, rfl, by simp [woP], 0, rfl⟩
  case round =>
    obtain ⟨n, hn, rfl, rfl, q, rfl⟩ := hrel
    by_cases hlt : n < more.length
    · have hltI : (n : Int) < (more.length : Int) := by omega
      have s1 : IntKind.i64.wrap ((n : Int) + 1) = (n : Int) + 1 := IntWalk.i64_in _ (by omega)
      have hsn := Lib.hid (hsuc.out n hlt)
      have hwn := hwl.out n
      obtain ⟨am, ham⟩ := hM.out.some_of (k := n) (by simpa using hlt)
      subst ham
      have hst : more[n]? = some more[n] := List.getElem?_eq_getElem hlt
      have hcr : ∀ j v, (stV more[n])[j]? = some v → w.cell? (am.add (n * 2 + j)) = some v := fun j v hj => hM.out.cells am rfl n (stV more[n]) j v (by rw [List.getElem?_map, hst]; rfl) hj
      have hwr := Lib.hid (hS.out n more[n] hst)
      have hla := Lib.hid (hat.out n more[n] hst)
      replace hcr := Lib.hid hcr
      generalize more[n] = s at *
      obtain ⟨sr, sk⟩ := s
      dsimp only at *
      have hl0 : Hid (∀ q, (loadVar 3 (am.add (n * 2))).run Try.prog (w.drewN q) = .ok (.int .i64 sr) (w.drewN q)) := Lib.hid (fun q => run_i64 (by have := hcr.out 0 (.int .i64 sr) rfl; simpa using this))
      by_cases hr : sr = req
      · subst hr
        clear hwr hla hcr
        have s2 : (woP (more.take (n + 1)) sr).length = (woP (more.take n) sr).length := by rw [hsn.out, if_pos rfl, List.append_nil]
        replace s2 := Lib.hid s2
        clear hsn hst
        have hl1 := Lib.hid (hl0.out q)
        clear hl0
        go_wp2_with (first | (refine wpList_load_v rfl 3 _ rfl (am.add (n * 2)) rfl _ hl1.out ?_))
        go_roundw
        case rel => exact ⟨n + 1, by omega, by simp, by rw [s2.out], q, rfl⟩
        case measure => simp [intOf]; omega
      · have s2 : (woP (more.take (n + 1)) req).length = (woP (more.take n) req).length + 1 := by rw [hsn.out, if_neg hr]; simp
        obtain ⟨v, u, hv, hu, hle1, hle2, heq⟩ := hwr.out hr
        have hlk := hla.out hr
        replace s2 := Lib.hid s2
        clear hwr hla hsn
        generalize (woP (more.take n) req).length = k at *
        have hka := (List.getElem?_eq_some_iff.1 hv).1
        have hkl := (List.getElem?_eq_some_iff.1 hlk).1
        have hnb := (List.getElem?_eq_some_iff.1 hu).1
        rw [e2.out] at hka
        rw [e3.out] at hnb
        obtain ⟨al, hal⟩ := hL.out.some_of (k := k) (by simpa using hkl)
        subst hal
        obtain ⟨aa, haa⟩ := hA.out.some_of (k := k) (by rw [List.length_map, e2.out]; exact hka)
        subst haa
        obtain ⟨ab, hab⟩ := hB.out.some_of (k := n) (by rw [List.length_map, e3.out]; exact hnb)
        subst hab
        obtain ⟨v0, v1, v2⟩ := v
        obtain ⟨u0, u1, u2⟩ := u
        have cl0 : Hid (∀ q, (loadVar 55 (al.add (k * 2))).run Try.prog (w.drewN q) = .ok (.agg #[.int .i64 sr, .int .i64 sk]) (w.drewN q)) := Lib.hid (fun q => by
          have := (hL.out.below (below_drewN (Below.refl _ w) q)).load (P := Try.prog) (a := al) rfl (k := k) (by simpa using hkl) (ty := 55) Try.underlying55 rfl (by kernel_rfl)
          rw [List.getElem_map, (List.getElem?_eq_some_iff.1 hlk).2] at this
          exact this)
        have cm0 : Hid (∀ q, (loadVar 55 (am.add (n * 2))).run Try.prog (w.drewN q) = .ok (.agg #[.int .i64 sr, .int .i64 sk]) (w.drewN q)) := Lib.hid (fun q => by
          have := (hM.out.below (below_drewN (Below.refl _ w) q)).load (P := Try.prog) (a := am) rfl (k := n) (by simpa using hlt) (ty := 55) Try.underlying55 rfl (by kernel_rfl)
          rw [List.getElem_map, (List.getElem?_eq_some_iff.1 hst).2] at this
          exact this)
        have ca0 : Hid (∀ q, (loadVar 98 (aa.add (k * 3))).run Try.prog (w.drewN q) = .ok (.agg #[.int .i64 v0, .int .i64 v1, .int .i64 v2]) (w.drewN q)) := Lib.hid (fun q => by
          have := (hA.out.below (below_drewN (Below.refl _ w) q)).load (P := Try.prog) (a := aa) rfl (k := k) (by rw [List.length_map, e2.out]; exact hka) (ty := 98) Try.underlying98 rfl (by kernel_rfl)
          rw [List.getElem_map, (List.getElem?_eq_some_iff.1 hv).2] at this
          exact this)
        have cb0 : Hid (∀ q, (loadVar 98 (ab.add (n * 3))).run Try.prog (w.drewN q) = .ok (.agg #[.int .i64 u0, .int .i64 u1, .int .i64 u2]) (w.drewN q)) := Lib.hid (fun q => by
          have := (hB.out.below (below_drewN (Below.refl _ w) q)).load (P := Try.prog) (a := ab) rfl (k := n) (by rw [List.length_map, e3.out]; exact hnb) (ty := 98) Try.underlying98 rfl (by kernel_rfl)
          rw [List.getElem_map, (List.getElem?_eq_some_iff.1 hu).2] at this
          exact this)
        have ca : ∀ j z, (tmV (v0, v1, v2))[j]? = some z → Hid (∀ q, (w.drewN q).cell? ((aa.add (k * 3)).add j) = some z) := fun j z hj => Lib.hid (fun q => by
          rw [addr_add_add]
          exact hA.out.cells aa rfl k (tmV (v0, v1, v2)) j z (by rw [List.getElem?_map, hv]; rfl) hj)
        have cb : ∀ j z, (tmV (u0, u1, u2))[j]? = some z → Hid (∀ q, (w.drewN q).cell? ((ab.add (n * 3)).add j) = some z) := fun j z hj => Lib.hid (fun q => by
          rw [addr_add_add]
          exact hB.out.cells ab rfl n (tmV (u0, u1, u2)) j z (by rw [List.getElem?_map, hu]; rfl) hj)
        have ca1 := ca 1 _ rfl
        have ca2 := ca 2 _ rfl
        have cb1 := cb 1 _ rfl
        have cb2 := cb 2 _ rfl
        dsimp only at hle1 hle2
        have n1 : decide ((v1 : Int) > u1) = false := decide_eq_false (by omega)
        have n2 : decide ((v2 : Int) > u2) = false := decide_eq_false (by omega)
        have nst := Lib.hid (fun w => neq_stop w sr sk)
        have g1 : decide ((k : Int) ≥ (l.length : Int)) = false := decide_eq_false (by omega)
        have g2 : decide ((n : Int) ≥ (more.length : Int)) = false := decide_eq_false (by omega)
        replace g1 := Lib.hid g1
        replace g2 := Lib.hid g2
        replace n1 := Lib.hid n1
        replace n2 := Lib.hid n2
        have hne : (sr == req) = false := by simpa using hr
        have hl1 := Lib.hid (hl0.out q)
        clear ca cb hv hu hlk hst hcr hl0 hat hS
        go_upto_region 6 with (first | (refine wpList_load_v rfl 3 _ rfl (am.add (n * 2)) rfl _ hl1.out ?_))
        --REGION6
        have hklI : (k : Int) < (l.length : Int) := by omega
        have hkaI : (0 : Int) ≤ (k : Int) := by omega
        have hnaI : (0 : Int) ≤ (n : Int) := by omega
        by_cases hki : k < i
        · have gk := Lib.hid (show decide ((k : Int) < (i : Int)) = true from decide_eq_true (by omega))
          cases heq hki
          have ntm := Lib.hid (fun w => neq_time w v0 v1 v2)
          clear heq
          refine wp_region_quiet_lit (by kernel_rfl) (by kernel_rfl) ?_
          go_big_quiet_step (fail)
          go_big_quiet_step (fail)
          go_big_quiet_step (fail)
          refine wpQuiet_v rfl (.bool false) (by rintro _ ⟨j, rfl⟩; rw [World.drewN_drewN]; exact run_geqF g1.out rfl rfl rfl) ?_
          simp only [Act.put, List.setIfInBounds_toArray, List.set_cons_succ, List.set_cons_zero]
          go_big_quiet_step (fail)
          go_big_quiet_step (fail)
          go_big_quiet_step (fail)
          go_big_quiet_step (fail)
          refine wpQuiet_v rfl (.bool false) (by rintro _ ⟨j, rfl⟩; rw [World.drewN_drewN]; exact run_geqF g2.out rfl rfl rfl) ?_
          simp only [Act.put, List.setIfInBounds_toArray, List.set_cons_succ, List.set_cons_zero]
          go_big_quiet_step (fail)
          go_big_quiet_step (fail)
          go_big_quiet_step (fail)
          go_big_quiet_step (fail)
          go_big_quiet_step (fail)
          refine wpQuiet_v rfl (.agg #[.int .i64 sr, .int .i64 sk]) (by rintro _ ⟨j, rfl⟩; rw [World.drewN_drewN]; exact run_load_v rfl rfl (cm0.out _)) ?_
          simp only [Act.put, List.setIfInBounds_toArray, List.set_cons_succ, List.set_cons_zero]
          go_big_quiet_step (fail)
          go_big_quiet_step (fail)
          go_big_quiet_step (fail)
          refine wpQuiet_v rfl (.agg #[.int .i64 sr, .int .i64 sk]) (by rintro _ ⟨j, rfl⟩; rw [World.drewN_drewN]; exact run_load_v rfl rfl (cl0.out _)) ?_
          simp only [Act.put, List.setIfInBounds_toArray, List.set_cons_succ, List.set_cons_zero]
          refine wpQuiet_v rfl (.bool false) (by rintro _ ⟨j, rfl⟩; rw [World.drewN_drewN]; exact run_bin_v rfl rfl rfl (by kernel_rfl) (nst.out _)) ?_
          simp only [Act.put, List.setIfInBounds_toArray, List.set_cons_succ, List.set_cons_zero]
          go_big_quiet_step (fail)
          go_big_quiet_step (fail)
          go_big_quiet_step (fail)
          go_big_quiet_step (fail)
          refine wpQuiet_v rfl (.bool true) (by rintro _ ⟨j, rfl⟩; rw [World.drewN_drewN]; exact run_lssF gk.out rfl rfl rfl) ?_
          simp only [Act.put, List.setIfInBounds_toArray, List.set_cons_succ, List.set_cons_zero]
          go_big_quiet_step (fail)
          go_big_quiet_step (fail)
          go_big_quiet_step (fail)
          go_big_quiet_step (fail)
          refine wpQuiet_v rfl (.agg #[.int .i64 v0, .int .i64 v1, .int .i64 v2]) (by rintro _ ⟨j, rfl⟩; rw [World.drewN_drewN]; exact run_load_v rfl rfl (ca0.out _)) ?_
          simp only [Act.put, List.setIfInBounds_toArray, List.set_cons_succ, List.set_cons_zero]
          go_big_quiet_step (fail)
          go_big_quiet_step (fail)
          go_big_quiet_step (fail)
          refine wpQuiet_v rfl (.agg #[.int .i64 v0, .int .i64 v1, .int .i64 v2]) (by rintro _ ⟨j, rfl⟩; rw [World.drewN_drewN]; exact run_load_v rfl rfl (cb0.out _)) ?_
          simp only [Act.put, List.setIfInBounds_toArray, List.set_cons_succ, List.set_cons_zero]
          refine wpQuiet_v rfl (.bool false) (by rintro _ ⟨j, rfl⟩; rw [World.drewN_drewN]; exact run_bin_v rfl rfl rfl (by kernel_rfl) (ntm.out _)) ?_
          simp only [Act.put, List.setIfInBounds_toArray, List.set_cons_succ, List.set_cons_zero]
          go_big_quiet_step (fail)
          go_big_quiet_step (fail)
          go_big_quiet_step (fail)
          go_big_quiet_step (fail)
          go_big_quiet_step (fail)
          go_big_quiet_step (fail)
          go_big_quiet_step (fail)
          refine wpQuiet_v rfl (.int .i64 v1) (by rintro _ ⟨j, rfl⟩; rw [World.drewN_drewN]; exact run_load_v rfl rfl (run_i64 (ca1.out _))) ?_
          simp only [Act.put, List.setIfInBounds_toArray, List.set_cons_succ, List.set_cons_zero]
          go_big_quiet_step (fail)
          go_big_quiet_step (fail)
          go_big_quiet_step (fail)
          go_big_quiet_step (fail)
          refine wpQuiet_v rfl (.int .i64 v1) (by rintro _ ⟨j, rfl⟩; rw [World.drewN_drewN]; exact run_load_v rfl rfl (run_i64 (cb1.out _))) ?_
          simp only [Act.put, List.setIfInBounds_toArray, List.set_cons_succ, List.set_cons_zero]
          refine wpQuiet_v rfl (.bool false) (by rintro _ ⟨j, rfl⟩; rw [World.drewN_drewN]; exact run_gtrF n1.out rfl rfl rfl) ?_
          simp only [Act.put, List.setIfInBounds_toArray, List.set_cons_succ, List.set_cons_zero]
          go_big_quiet_step (fail)
          go_big_quiet_step (fail)
          go_big_quiet_step (fail)
          go_big_quiet_step (fail)
          go_big_quiet_step (fail)
          go_big_quiet_step (fail)
          refine wpQuiet_v rfl (.int .i64 v2) (by rintro _ ⟨j, rfl⟩; rw [World.drewN_drewN]; exact run_load_v rfl rfl (run_i64 (ca2.out _))) ?_
          simp only [Act.put, List.setIfInBounds_toArray, List.set_cons_succ, List.set_cons_zero]
          go_big_quiet_step (fail)
          go_big_quiet_step (fail)
          go_big_quiet_step (fail)
          go_big_quiet_step (fail)
          refine wpQuiet_v rfl (.int .i64 v2) (by rintro _ ⟨j, rfl⟩; rw [World.drewN_drewN]; exact run_load_v rfl rfl (run_i64 (cb2.out _))) ?_
          simp only [Act.put, List.setIfInBounds_toArray, List.set_cons_succ, List.set_cons_zero]
          refine wpQuiet_v rfl (.bool false) (by rintro _ ⟨j, rfl⟩; rw [World.drewN_drewN]; exact run_gtrF n2.out rfl rfl rfl) ?_
          simp only [Act.put, List.setIfInBounds_toArray, List.set_cons_succ, List.set_cons_zero]
          go_big_quiet_step (fail)
          refine wpQuiet_nil ?_
          rintro _ ⟨j, rfl⟩
          rw [World.drewN_drewN]
          clear cl0 cm0 ca0 cb0 ca1 ca2 cb1 cb2 nst
          go_wp2_with fail
          go_roundw
          case rel => exact ⟨n + 1, by omega, by simp, by rw [s2.out]; simp, _, rfl⟩
          case measure => simp [intOf]; omega
        · have gk := Lib.hid (show decide ((k : Int) < (i : Int)) = false from decide_eq_false (by omega))
          clear heq
          refine wp_region_quiet_lit (by kernel_rfl) (by kernel_rfl) ?_
          go_big_quiet_step (fail)
          go_big_quiet_step (fail)
          go_big_quiet_step (fail)
          refine wpQuiet_v rfl (.bool false) (by rintro _ ⟨j, rfl⟩; rw [World.drewN_drewN]; exact run_geqF g1.out rfl rfl rfl) ?_
          simp only [Act.put, List.setIfInBounds_toArray, List.set_cons_succ, List.set_cons_zero]
          go_big_quiet_step (fail)
          go_big_quiet_step (fail)
          go_big_quiet_step (fail)
          go_big_quiet_step (fail)
          refine wpQuiet_v rfl (.bool false) (by rintro _ ⟨j, rfl⟩; rw [World.drewN_drewN]; exact run_geqF g2.out rfl rfl rfl) ?_
          simp only [Act.put, List.setIfInBounds_toArray, List.set_cons_succ, List.set_cons_zero]
          go_big_quiet_step (fail)
          go_big_quiet_step (fail)
          go_big_quiet_step (fail)
          go_big_quiet_step (fail)
          go_big_quiet_step (fail)
          refine wpQuiet_v rfl (.agg #[.int .i64 sr, .int .i64 sk]) (by rintro _ ⟨j, rfl⟩; rw [World.drewN_drewN]; exact run_load_v rfl rfl (cm0.out _)) ?_
          simp only [Act.put, List.setIfInBounds_toArray, List.set_cons_succ, List.set_cons_zero]
          go_big_quiet_step (fail)
          go_big_quiet_step (fail)
          go_big_quiet_step (fail)
          refine wpQuiet_v rfl (.agg #[.int .i64 sr, .int .i64 sk]) (by rintro _ ⟨j, rfl⟩; rw [World.drewN_drewN]; exact run_load_v rfl rfl (cl0.out _)) ?_
          simp only [Act.put, List.setIfInBounds_toArray, List.set_cons_succ, List.set_cons_zero]
          refine wpQuiet_v rfl (.bool false) (by rintro _ ⟨j, rfl⟩; rw [World.drewN_drewN]; exact run_bin_v rfl rfl rfl (by kernel_rfl) (nst.out _)) ?_
          simp only [Act.put, List.setIfInBounds_toArray, List.set_cons_succ, List.set_cons_zero]
          go_big_quiet_step (fail)
          go_big_quiet_step (fail)
          go_big_quiet_step (fail)
          go_big_quiet_step (fail)
          refine wpQuiet_v rfl (.bool false) (by rintro _ ⟨j, rfl⟩; rw [World.drewN_drewN]; exact run_lssF gk.out rfl rfl rfl) ?_
          simp only [Act.put, List.setIfInBounds_toArray, List.set_cons_succ, List.set_cons_zero]
          go_big_quiet_step (fail)
          go_big_quiet_step (fail)
          go_big_quiet_step (fail)
          go_big_quiet_step (fail)
          go_big_quiet_step (fail)
          go_big_quiet_step (fail)
          go_big_quiet_step (fail)
          go_big_quiet_step (fail)
          go_big_quiet_step (fail)
          go_big_quiet_step (fail)
          go_big_quiet_step (fail)
          go_big_quiet_step (fail)
          go_big_quiet_step (fail)
          go_big_quiet_step (fail)
          go_big_quiet_step (fail)
          go_big_quiet_step (fail)
          go_big_quiet_step (fail)
          refine wpQuiet_v rfl (.int .i64 v1) (by rintro _ ⟨j, rfl⟩; rw [World.drewN_drewN]; exact run_load_v rfl rfl (run_i64 (ca1.out _))) ?_
          simp only [Act.put, List.setIfInBounds_toArray, List.set_cons_succ, List.set_cons_zero]
          go_big_quiet_step (fail)
          go_big_quiet_step (fail)
          go_big_quiet_step (fail)
          go_big_quiet_step (fail)
          refine wpQuiet_v rfl (.int .i64 u1) (by rintro _ ⟨j, rfl⟩; rw [World.drewN_drewN]; exact run_load_v rfl rfl (run_i64 (cb1.out _))) ?_
          simp only [Act.put, List.setIfInBounds_toArray, List.set_cons_succ, List.set_cons_zero]
          refine wpQuiet_v rfl (.bool false) (by rintro _ ⟨j, rfl⟩; rw [World.drewN_drewN]; exact run_gtrF n1.out rfl rfl rfl) ?_
          simp only [Act.put, List.setIfInBounds_toArray, List.set_cons_succ, List.set_cons_zero]
          go_big_quiet_step (fail)
          go_big_quiet_step (fail)
          go_big_quiet_step (fail)
          go_big_quiet_step (fail)
          go_big_quiet_step (fail)
          go_big_quiet_step (fail)
          refine wpQuiet_v rfl (.int .i64 v2) (by rintro _ ⟨j, rfl⟩; rw [World.drewN_drewN]; exact run_load_v rfl rfl (run_i64 (ca2.out _))) ?_
          simp only [Act.put, List.setIfInBounds_toArray, List.set_cons_succ, List.set_cons_zero]
          go_big_quiet_step (fail)
          go_big_quiet_step (fail)
          go_big_quiet_step (fail)
          go_big_quiet_step (fail)
          refine wpQuiet_v rfl (.int .i64 u2) (by rintro _ ⟨j, rfl⟩; rw [World.drewN_drewN]; exact run_load_v rfl rfl (run_i64 (cb2.out _))) ?_
          simp only [Act.put, List.setIfInBounds_toArray, List.set_cons_succ, List.set_cons_zero]
          refine wpQuiet_v rfl (.bool false) (by rintro _ ⟨j, rfl⟩; rw [World.drewN_drewN]; exact run_gtrF n2.out rfl rfl rfl) ?_
          simp only [Act.put, List.setIfInBounds_toArray, List.set_cons_succ, List.set_cons_zero]
          go_big_quiet_step (fail)
          refine wpQuiet_nil ?_
          rintro _ ⟨j, rfl⟩
          rw [World.drewN_drewN]
          clear cl0 cm0 ca0 cb0 ca1 ca2 cb1 cb2 nst
          go_wp2_with fail
          go_roundw
          case rel => exact ⟨n + 1, by omega, by simp, by rw [s2.out]; simp, _, rfl⟩
          case measure => simp [intOf]; omega
    · obtain rfl : n = more.length := by omega
      rw [hfin.out]
      go_wp2
      go_ret
      exact ⟨by simp, below_drewN (Below.refl _ _) _⟩
end Go.Proofs.Ytcdpiemkbefcoaa
