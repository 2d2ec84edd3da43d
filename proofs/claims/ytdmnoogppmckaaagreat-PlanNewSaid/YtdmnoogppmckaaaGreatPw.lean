/-
  Layer 13: PlanNew: the walk, the arguments.
-/
import Derived.Test.YtdmnoogppmckaaaGreatAl
import Derived.Test.YtdmnoogppmckaaaGreatOpn
namespace Go.Proofs.YtdmnoogppmckaaaGreat
open Go.ChangeShapes Go.WideShapes Go.ChangeAt Go.RowKit

section
variable {H : Type} {enc : TypeId × Value → H} {W : World} {base : Nat} {v : Value} {d : DataW H} {q : List MemPlace}
set_option maxRecDepth 100000 in
theorem arg_ves (hv : Value.okWide Tryz.prog W .any base 22 v) (h : DataW.Trod enc Tryz.prog W 0 (fun _ => true) true 22 v d q) :
    ∃ (q : Option Addr) (L : List Ve) (cap : Nat), v = .slice q L.length cap ∧ ElsR W q 5 (L.map veR) ∧ L.length ≤ cap ∧ cap ≤ 9223372036854775807 := by
  obtain ⟨a, len, cap0, rfl⟩ := okWide_slice Tryz.underlying22 hv
  obtain ⟨fuel, hf⟩ := h
  obtain ⟨q, L, cap, e, h1, h2, h3, _⟩ := open_rows (n := 5) ve0 veR _ (fun _ => rfl) Tryz.underlying22 (by kernel_rfl) (fun _ _ _ h => open_ve h) hf
  exact ⟨q, L, cap, by simpa [Value.cells] using e, h1, h2, h3⟩
end
section
variable {ρ : Operand → Value} {o : Oper} {w : World} {x y z : Operand} {p : Option Addr} {n c k : Nat}
theorem run_slHV (ho : o.op = .slice 22 x none (some y) none) (hx : ρ x = .slice p n c) (hy : ρ y = .int .i64 (k : Int)) (h1 : k ≤ c) : (execOp ρ o).run Tryz.prog w = .ok (.value (.slice p k c)) w := by
  have h := run_slice_h (P := Tryz.prog) w 22 p n c (by kernel_rfl) .i64 (k : Int) (by omega) (by omega)
  have hs : (sizeOf (Tryz.prog.elem 22)).run Tryz.prog w = .ok 5 w := by kernel_rfl
  rw [← run_sliceAt_slice (P := Tryz.prog) w 22 (.slice p n c) _ _ _ (by kernel_rfl), hs] at h
  simp only [Result.andThen_ok, Int.toNat_natCast, sliced, Nat.sub_zero, Nat.zero_mul] at h
  unfold execOp
  have e : (if c = 0 then p else p.map fun a => a.add 0) = p := by
    split
    · rfl
    · cases p <;> simp [Addr.add]
  rw [e] at h
  simp only [ho, hx, hy, Option.map_some, Option.map_none, Sem.run_bind, h, Sem.run_pure, Result.andThen_ok]
theorem run_slHR (ho : o.op = .slice 23 x none (some y) none) (hx : ρ x = .slice p n c) (hy : ρ y = .int .i64 (k : Int)) (h1 : k ≤ c) : (execOp ρ o).run Tryz.prog w = .ok (.value (.slice p k c)) w := by
  have h := run_slice_h (P := Tryz.prog) w 23 p n c (by kernel_rfl) .i64 (k : Int) (by omega) (by omega)
  have hs : (sizeOf (Tryz.prog.elem 23)).run Tryz.prog w = .ok 10 w := by kernel_rfl
  rw [← run_sliceAt_slice (P := Tryz.prog) w 23 (.slice p n c) _ _ _ (by kernel_rfl), hs] at h
  simp only [Result.andThen_ok, Int.toNat_natCast, sliced, Nat.sub_zero, Nat.zero_mul] at h
  unfold execOp
  have e : (if c = 0 then p else p.map fun a => a.add 0) = p := by
    split
    · rfl
    · cases p <;> simp [Addr.add]
  rw [e] at h
  simp only [ho, hx, hy, Option.map_some, Option.map_none, Sem.run_bind, h, Sem.run_pure, Result.andThen_ok]
theorem run_lenR (ho : o.op = .call { callee := .builtin .len, args := #[x], argTypes := #[23] }) (hx : ρ x = .slice p n c) : (execOp ρ o).run Tryz.prog w = .ok (.value (.int .i64 (n : Int))) w := by
  unfold execOp
  simp only [ho]
  go_simp
theorem run_min30 {m : Int} {a : Int} (hm : m = if 30 < a then 30 else a) (ho : o.op = .call { callee := .builtin .min, args := #[x, .const (.int .i64 30)], argTypes := #[3, 3] }) (hx : ρ x = .int .i64 a) (hc : ρ (.const (.int .i64 30)) = .int .i64 30 := by rfl) :
    (execOp ρ o).run Tryz.prog w = .ok (.value (.int .i64 m)) w := by
  subst hm
  unfold execOp
  simp only [ho]
  go_simp
  show min a 30 = _
  rw [Int.min_def]
  split <;> split <;> omega
end
set_option maxHeartbeats 4000000 in
set_option maxRecDepth 100000 in
theorem PlanNew_walk (pF pT : Option Addr) (cF cT : Nat) (L : List Ve) (M : List Rq) (w : World) (hF : Els w pF 5 ((L.take 30).map veR)) (hT : Els w pT 10 ((M.take 30).map rqV)) (hcF : L.length ≤ cF ∧ cF ≤ 9223372036854775807) (hcT : M.length ≤ cT ∧ cT ≤ 9223372036854775807) :
    Calls Tryz.prog 3 #[.slice pF L.length cF, .slice pT M.length cT] w fun e w' => e = .returned (.bool true) ∧ Below w.heap.size w w' := by
  have hl1 : (L.take 30).length = min 30 L.length := List.length_take
  have hl2 : (M.take 30).length = min 30 M.length := List.length_take
  generalize L.take 30 = F at *
  generalize M.take 30 = T at *
  obtain ⟨n, hn⟩ : ∃ n, F.length = n := ⟨_, rfl⟩
  obtain ⟨m, hm⟩ : ∃ m, T.length = m := ⟨_, rfl⟩
  rw [hn] at hl1
  rw [hm] at hl2
  have hn1 : Hid ((n : Int) = if 30 < (L.length : Int) then 30 else (L.length : Int)) := Lib.hid (by split <;> omega)
  have hm1 : Hid ((m : Int) = if 30 < (M.length : Int) then 30 else (M.length : Int)) := Lib.hid (by split <;> omega)
  have hnc : n ≤ cF := by omega
  have hmc : m ≤ cT := by omega
  have hn30 : n ≤ 30 := by omega
  have hm30 : m ≤ 30 := by omega
  have hnew := Lib.hid (fun wx (hb : Below w.heap.size w wx) => pnew_calls pF pT cF cT F T wx (hF.below hb) (by omega) (hT.below hb) (by omega))
  have hrn := Lib.hid (fun wx (hb : Below w.heap.size w wx) => rnew_calls pF pT cF cT F T wx (hF.below hb) (by omega) (hT.below hb) (by omega))
  have htl : T.length ≤ 1000 := by omega
  rw [hn, hm] at hnew hrn
  replace htl := Lib.hid htl
  replace hn := Lib.hid hn
  replace hm := Lib.hid hm
  obtain ⟨ec, hec⟩ : ∃ ec, newC F T = ec := ⟨_, rfl⟩
  clear hl1 hl2 hF hT
  go_enter Tryz.func3, Tryz.ntmps3
  go_upto_region 1 with fail
  refine wp_region_quiet_lit (by kernel_rfl) (by kernel_rfl) ?_
  refine wpQuiet_v rfl (.slice pF L.length cF) (fun _ _ => run_mov rfl rfl) ?_
  simp only [Act.put, List.setIfInBounds_toArray, List.set_cons_succ, List.set_cons_zero]
  refine wpQuiet_v rfl (.slice pF L.length cF) (fun _ _ => run_mov rfl rfl) ?_
  simp only [Act.put, List.setIfInBounds_toArray, List.set_cons_succ, List.set_cons_zero]
  refine wpQuiet_v rfl (.int .i64 (L.length : Int)) (fun _ _ => run_lenV rfl rfl) ?_
  simp only [Act.put, List.setIfInBounds_toArray, List.set_cons_succ, List.set_cons_zero]
  refine wpQuiet_v rfl (.int .i64 (n : Int)) (fun _ _ => run_min30 hn1.out rfl rfl) ?_
  simp only [Act.put, List.setIfInBounds_toArray, List.set_cons_succ, List.set_cons_zero]
  refine wpQuiet_v rfl (.slice pF n cF) (fun _ _ => run_slHV rfl rfl rfl hnc) ?_
  simp only [Act.put, List.setIfInBounds_toArray, List.set_cons_succ, List.set_cons_zero]
  refine wpQuiet_v rfl (.slice pT M.length cT) (fun _ _ => run_mov rfl rfl) ?_
  simp only [Act.put, List.setIfInBounds_toArray, List.set_cons_succ, List.set_cons_zero]
  refine wpQuiet_v rfl (.slice pT M.length cT) (fun _ _ => run_mov rfl rfl) ?_
  simp only [Act.put, List.setIfInBounds_toArray, List.set_cons_succ, List.set_cons_zero]
  refine wpQuiet_v rfl (.int .i64 (M.length : Int)) (fun _ _ => run_lenR rfl rfl) ?_
  simp only [Act.put, List.setIfInBounds_toArray, List.set_cons_succ, List.set_cons_zero]
  refine wpQuiet_v rfl (.int .i64 (m : Int)) (fun _ _ => run_min30 hm1.out rfl rfl) ?_
  simp only [Act.put, List.setIfInBounds_toArray, List.set_cons_succ, List.set_cons_zero]
  refine wpQuiet_v rfl (.slice pT m cT) (fun _ _ => run_slHR rfl rfl rfl hmc) ?_
  simp only [Act.put, List.setIfInBounds_toArray, List.set_cons_succ, List.set_cons_zero]
  refine wpQuiet_v rfl (.slice pF n cF) (fun _ _ => run_asg rfl rfl) ?_
  simp only [Act.put, List.setIfInBounds_toArray, List.set_cons_zero]
  refine wpQuiet_v rfl (.slice pT m cT) (fun _ _ => run_asg rfl rfl) ?_
  simp only [Act.put, List.setIfInBounds_toArray, List.set_cons_succ, List.set_cons_zero]
  refine wpQuiet_nil ?_
  rintro _ ⟨j, rfl⟩
  have hb0 : Below w.heap.size w (w.drewN j) := below_drewN (Below.refl _ _) j
  generalize w.drewN j = w1 at *
  have h1 := hnew.out w1 hb0
  unfold NwPost at h1
  replace hb0 := Lib.hid hb0
  go_wp2_with fail
  refine h1.mono ?_
  clear h1
  rintro e w2 ⟨hb2, hor⟩
  have hb := Lib.hid (hb0.out.trans (hb2.mono hb0.out.size))
  have h1 := hrn.out w2 hb.out
  unfold RnPost at h1
  rcases hor with ⟨he, rfl⟩ | ⟨he, b, gT, gM, G, rfl, hG, hPl⟩
  · rw [hec] at he ⊢
    have he' : (ec == 0) = false := beq_eq_false_iff_ne.2 he
    clear hb2
    go_wp2_with fail
    refine h1.mono ?_
    clear h1
    rintro e w3 ⟨hb3, hor⟩
    replace hb := Lib.hid (hb.out.trans (hb3.mono hb.out.size))
    rcases hor with ⟨_, rfl⟩ | ⟨h, _⟩
    · rw [hec]
      clear hb3
      go_wp2_with fail
      refine (works13_calls _).mono ?_
      rintro e w4 ⟨rfl, hb4⟩
      replace hb := Lib.hid (hb.out.trans (hb4.mono hb.out.size))
      clear hb4
      go_wp2_with fail
      go_ret
      exact ⟨rfl, hb.out⟩
    · exact absurd (hec.symm.trans h) he
  · have hP := Lib.hid (PSt.new hG hPl he htl.out)
    clear hG hPl hb2
    go_wp2_with fail
    refine h1.mono ?_
    clear h1
    rintro e w3 ⟨hb3, hor⟩
    replace hb := Lib.hid (hb.out.trans (hb3.mono hb.out.size))
    replace hP := Lib.hid (hP.out.below hb3)
    rcases hor with ⟨h, _⟩ | ⟨_, b2, gR, G2, rfl, hG2, hR⟩
    · exact absurd he h
    have hal := alike_calls hP.out (by omega) hR
    clear hb3 hG2 hR hP
    go_wp2_with fail
    refine hal.mono ?_
    clear hal
    rintro e w4 ⟨rfl, hb4⟩
    replace hb := Lib.hid (hb.out.trans (hb4.mono hb.out.size))
    clear hb4
    go_wp2_with fail
    refine (works13_calls _).mono ?_
    rintro e w5 ⟨rfl, hb4⟩
    replace hb := Lib.hid (hb.out.trans (hb4.mono hb.out.size))
    clear hb4
    go_wp2_with fail
    go_ret
    exact ⟨rfl, hb.out⟩
end Go.Proofs.YtdmnoogppmckaaaGreat
