/-
  Layer 8: Drawn.parts: what LoadTells is asked of.
-/
import Derived.Test.YtaijimckbpplnaaW8
import Derived.Test.YtaijimckbpplnaaWt
namespace Go.Proofs.Ytaijimckbpplnaa
open Go.RowKit

theorem blk_at {w : World} {b : Nat} {C : Array Value} {t : TypeId} (h : Blk w b C t) (i : Nat) : w.cell? ⟨b, i, none⟩ = C[i]? := by
  unfold Blk at h
  simp [World.cell?, h]
theorem idx_eq {n k j K J : Nat} (hj : j < n) (hJ : J < n) (e : K * n + J = k * n + j) : K = k ∧ J = j := by
  have h1 : (K * n + J) / n = K := by
    rw [Nat.mul_comm, Nat.mul_add_div (by omega), Nat.div_eq_of_lt hJ, Nat.add_zero]
  have h2 : (k * n + j) / n = k := by
    rw [Nat.mul_comm, Nat.mul_add_div (by omega), Nat.div_eq_of_lt hj, Nat.add_zero]
  have h3 : K = k := by rw [← h1, ← h2, e]
  subst h3
  exact ⟨rfl, by omega⟩
/-- one cell of a row's element, stored -/
theorem els_set {w : World} {g n : Nat} {E : TypeId} {C : Array Value} {R : List (List Value)} (hB : Blk w g C E) (h : Els w (some ⟨g, 0, none⟩) n R) {K J : Nat} (hK : K < R.length) (hJ : J < n) (v : Value) :
    Els (w.setCell ⟨g, K * n + J, none⟩ v) (some ⟨g, 0, none⟩) n (R.set K (R[K].set J v)) := by
  have hB' := hB.set (K * n + J) v
  have hlK := h.len _ (List.getElem_mem hK)
  refine ⟨fun e => (by cases e), fun x hx => ?_, by rw [List.length_set]; exact h.big, fun a ha k x j u hk hj => ?_⟩
  · rcases List.mem_or_eq_of_mem_set hx with hx | rfl
    · exact h.len x hx
    · rw [List.length_set]; exact hlK
  · cases ha
    have hjn : j < n := by
      have h1 := (List.getElem?_eq_some_iff.1 hj).1
      rcases List.mem_or_eq_of_mem_set (List.mem_of_getElem? hk) with hx | rfl
      · rw [h.len x hx] at h1; exact h1
      · rw [List.length_set, hlK] at h1; exact h1
    rw [add0, blk_at hB', Array.getElem?_setIfInBounds]
    by_cases e : K * n + J = k * n + j
    · obtain ⟨rfl, rfl⟩ := idx_eq hjn hJ e
      rw [List.getElem?_set_self hK] at hk
      cases hk
      rw [List.getElem?_set_self (by omega)] at hj
      cases hj
      have h0 := h.cells _ rfl K R[K] J R[K][J] (List.getElem?_eq_getElem hK) (List.getElem?_eq_getElem (by omega))
      rw [add0, blk_at hB] at h0
      rw [if_pos rfl, if_pos (Array.getElem?_eq_some_iff.1 h0).1]
    · rw [if_neg e]
      by_cases ek : K = k
      · subst ek
        rw [List.getElem?_set_self hK] at hk
        cases hk
        rw [List.getElem?_set_ne (fun e2 => e (by rw [e2]))] at hj
        have h0 := h.cells _ rfl K R[K] j u (List.getElem?_eq_getElem hK) hj
        rwa [add0, blk_at hB] at h0
      · rw [List.getElem?_set_ne ek] at hk
        have h0 := h.cells _ rfl k x j u hk hj
        rwa [add0, blk_at hB] at h0
/-- what is drawn: a table and three rows -/
def DwPost (w : World) (e : Ending) (w' : World) : Prop :=
  (∃ (T : List Rq) (M N O : List (Int × Int)) (qT qM qN qO : Option Addr) (dT dM dN dO : Nat),
    e = .returned (.tuple #[.slice qT T.length dT, .agg #[.slice qM M.length dM, .slice qN N.length dN, .slice qO O.length dO]]) ∧
    Els w' qT 10 (T.map rqV) ∧ Els w' qM 2 (M.map stV) ∧ Els w' qN 2 (N.map stV) ∧ Els w' qO 2 (O.map stV) ∧
    (M.length ≤ dM ∧ dM ≤ 9223372036854775807) ∧ (N.length ≤ dN ∧ dN ≤ 9223372036854775807) ∧ (O.length ≤ dO ∧ dO ≤ 9223372036854775807) ∧
    (M.length ≤ 100 ∧ N.length ≤ 100 ∧ O.length ≤ 100) ∧ (∀ s ∈ M, wf64 s.1) ∧ (∀ s ∈ N, wf64 s.1) ∧ ∀ s ∈ O, wf64 s.1) ∧ Below w.heap.size w w'
theorem els_modD {w w' : World} {p : Option Addr} {n : Nat} {R : List (List Value)} (h : Els w p n R) {S : Nat → Prop} (hm : Mod S w w') (hs : ∀ a, p = some a → ¬ S a.block) : Els w' p n R :=
  ⟨h.nil, h.len, h.big, fun a ha k x j v hk hj => hm.cell_of (by have e : (a.add (k * n + j)).block = a.block := (by unfold Addr.add; split <;> rfl); rw [e]; exact hs a ha) (h.cells a ha k x j v hk hj)⟩
theorem own_lenD {w : World} {base : Nat} {E : TypeId} {n k c m : Nat} {p : Option Addr} {xs : List Value} (h : w.ownsRow base E n (.slice p k c) m xs) : k = m := by
  rcases h.2 with ⟨hv, h0⟩ | ⟨g, cap, cur, hv, _⟩
  · cases hv; exact h0.symm
  · cases hv; rfl
theorem rq_set8 (q : Rq) : (rqV q).set 8 (.int .i64 0) = rqV (fun j => if j = 8 then 0 else q j) := by simp [rqV]
theorem res_tc {P : Program} {fn : Func} {p q : Tmp} {ty : TypeId} (h : fn.results = #[.tmp p, .cell q ty]) {tmps : Array Value} {w : World} {g : Nat} {v : Value}
    (hq : tmps.getD q undef = .pointer (some ⟨g, 0, none⟩)) (hrun : (loadVar ty ⟨g, 0, none⟩).run P w = .ok v w) :
    (results fn tmps).run P w = .ok (.tuple #[tmps.getD p undef, v]) w := by
  have hq' : tmps[q]?.getD undef = .pointer (some ⟨g, 0, none⟩) := by simpa using hq
  simp [results, h, hq', asAddr, hrun]
theorem run_slSoD {ρ : Operand → Value} {o : Oper} {w : World} {x y : Operand} {p : Option Addr} {n c k : Nat} (ho : o.op = .slice 26 x none (some y) none) (hx : ρ x = .slice p n c) (hy : ρ y = .int .i64 k) (hk : k ≤ c) :
    (execOp ρ o).run Try.prog w = .ok (.value (.slice p k c)) w := by
  have h := run_slice_h (P := Try.prog) w 26 p n c (by kernel_rfl) .i64 (k : Int) (by omega) (by omega)
  have hs : (sizeOf (Try.prog.elem 26)).run Try.prog w = .ok 2 w := by kernel_rfl
  rw [← run_sliceAt_slice (P := Try.prog) w 26 (.slice p n c) _ _ _ (by kernel_rfl), hs] at h
  simp only [Result.andThen_ok, Int.toNat_natCast, sliced, Nat.sub_zero, Nat.zero_mul] at h
  unfold execOp
  have e : (if c = 0 then p else p.map fun a => a.add 0) = p := by
    split
    · rfl
    · cases p <;> simp [Addr.add]
  rw [e] at h
  simp only [ho, hx, hy, Option.map_some, Option.map_none, Sem.run_bind, h, Sem.run_pure, Result.andThen_ok]
theorem run_b3 (p q r : Option Addr) (n m k c d f : Nat) (w : World) : (Instr.build 34 #[(0, .slice p n c), (1, .slice q m d), (2, .slice r k f)]).run Try.prog w = .ok (.agg #[.slice p n c, .slice q m d, .slice r k f]) w := by kernel_rfl
theorem run_bld3 {ρ : Operand → Value} {o : Oper} {w : World} {x y z : Operand} {p q r : Option Addr} {n m k c d f : Nat} (ho : o.op = .build 34 #[(0, x), (1, y), (2, z)]) (hx : ρ x = .slice p n c) (hy : ρ y = .slice q m d) (hz : ρ z = .slice r k f) :
    (execOp ρ o).run Try.prog w = .ok (.value (.agg #[.slice p n c, .slice q m d, .slice r k f])) w := by
  unfold execOp
  simp only [ho, List.map_toArray, List.map_cons, List.map_nil, hx, hy, hz, Sem.run_bind, run_b3, Result.andThen_ok, Sem.run_pure]
theorem wpAny_sw {P : Program} {md : Region.Mode} {ops : Array Oper} {Q : Exit → Act → World → Prop} {fuel : Nat} {listed : Array Bool} {a : Act} {w w' : World} {i : Nat} {o : Oper} (hr : Region.ready md ops listed = [i]) (ho : ops[i]? = some o)
    (hw : Region.wanted o (yielded ops a.tmps) = true) (hdst : o.dst = none) (hrun : (execOp a.eval o).run P w = .ok .skip w') (h : wpAny P md ops Q fuel (listed.setIfInBounds i true) a w') : wpAny P md ops Q (fuel + 1) listed a w :=
  wpAny_ready hr (by simp) (AllReady.cons ho (fun K hK => by
    rw [if_pos hw]
    unfold Oper.wp
    rw [hrun]
    show K (a.put o.dst undef) _
    rw [hdst]
    exact hK _ _ h) AllReady.nil)
def dwC (p p' ps : Option Addr) (nn c nb c' nS cs : Nat) (cp x y z : Int) : Array Value := #[.slice p nn c, .slice p' nb c', .int .u16 cp, .int .u8 x, .int .u8 y, .int .u8 z, .slice ps nS cs]
set_option maxHeartbeats 4000000 in
set_option maxRecDepth 100000 in
theorem dparts_calls (p p' ps : Option Addr) (c c' cs : Nat) (ns B : List Int) (S : List (Int × Int)) (cp x y z : Int) (w : World)
    (hN : Els w p 1 ((ns.take 12).map u16V)) (hnb : ns.length ≤ 9223372036854775807) (hr : ∀ n ∈ ns, 0 ≤ n ∧ n < 65536)
    (hB : Els w p' 1 ((B.take 12).map u8C)) (hbb : B.length ≤ 9223372036854775807) (hbr : ∀ n ∈ B, 0 ≤ n ∧ n < 256)
    (hS : Els w ps 2 ((S.take 20).map stV)) (hSc : S.length ≤ cs ∧ cs ≤ 9223372036854775807) (hSw : ∀ s ∈ S, wf64 s.1)
    (hx : 0 ≤ x ∧ x < 256) (hy : 0 ≤ y ∧ y < 256) (hz : 0 ≤ z ∧ z < 256) :
    Calls Try.prog 7 #[.agg (dwC p p' ps ns.length c B.length c' S.length cs cp x y z)] w (DwPost w) := by
  have hT0 := Lib.hid (fun wx (h : Below w.heap.size w wx) => table_calls p c ns wx (hN.below h) hnb hr)
  have hM0 := Lib.hid (fun wx (h : Below w.heap.size w wx) => made_calls p' c' B wx (hB.below h) hbb hbr)
  have hSb := Lib.hid (fun wx (h : Below w.heap.size w wx) => hS.below h)
  have hTl := tblP_len ns
  obtain ⟨hl1, hl2, hl3⟩ := mdL_ok B (mdN B.length)
  have hk6 : mdN B.length ≤ 6 := by unfold mdN; omega
  change (mdP B).length = _ at hl1
  change Rou (mdP B) at hl2
  change ∀ s ∈ mdP B, 0 ≤ s.1 ∧ s.1 < (mdN B.length : Int) at hl3
  have hl12 : (mdP B).length ≤ 12 := by omega
  have hlw : ∀ s ∈ mdP B, wf64 s.1 := fun s hs => by have := hl3 s hs; unfold wf64; omega
  clear hN hB hr hbr hS hl1 hl2 hl3 hk6
  generalize tblP ns = T at *
  generalize mdP B = M at *
  have hT12 : T.length ≤ 12 := by omega
  clear hTl
  replace hSw := Lib.hid hSw
  replace hlw := Lib.hid hlw
  obtain ⟨C, hC⟩ : ∃ C : Array Value, dwC p p' ps ns.length c B.length c' S.length cs cp x y z = C := ⟨_, rfl⟩
  have g0 : C[0]? = some (.slice p ns.length c) := by rw [← hC]; rfl
  have g1 : C[1]? = some (.slice p' B.length c') := by rw [← hC]; rfl
  have g3 : C[3]? = some (.int .u8 x) := by rw [← hC]; rfl
  have g4 : C[4]? = some (.int .u8 y) := by rw [← hC]; rfl
  have g5 : C[5]? = some (.int .u8 z) := by rw [← hC]; rfl
  have g6 : C[6]? = some (.slice ps S.length cs) := by rw [← hC]; rfl
  have hB0 := Lib.hid (Blk.new w C 28)
  rw [hC]
  have hc7 : C.size = 7 := by rw [← hC]; rfl
  clear hC
  replace hc7 := Lib.hid hc7
  go_enter Try.func7, Try.ntmps7
  go_upto_region 1 with fail
  refine wp_world' (fun wx => Blk wx w.heap.size C 28 ∧ Blk wx (w.heap.size + 1) #[.slice none 0 0, .slice none 0 0, .slice none 0 0] 34 ∧ Below w.heap.size w wx)
    ⟨hB0.out.alloc _, Blk.new' _ _ _ _, (new_below _ _).alloc (by simp) _⟩ ?_
  clear hB0
  rintro w1 ⟨hD, hR, hb1⟩
  have hlt1 := hR.lt
  have k0 := hD.cell g0
  replace hD := Lib.hid hD
  replace hR := Lib.hid hR
  go_wp2_with fail
  refine (hT0.out _ hb1).mono ?_
  rintro e w2 ⟨v, rfl, hO, hb2⟩
  have h12 := hb2.size
  have hM2 := (Mod.refl (fun _ => False) w1).after hb2
  replace hD := hD.out.mod hM2 (fun h => h)
  replace hR := Lib.hid (hR.out.mod hM2 (fun h => h))
  replace hb2 := hb1.trans (hb2.mono hb1.size)
  have k1 := hD.cell g1
  replace hD := Lib.hid hD
  obtain ⟨qT, mT, dT, rfl⟩ := own_isS hO
  obtain rfl := own_lenD hO
  have hOlt := Lib.hid (fun g hg => own_blk_lt hO (g := g) hg)
  clear k0 hM2
  go_wp2_with fail
  refine (hM0.out _ hb2).mono ?_
  rintro e w3 ⟨⟨qM, dM, rfl, hdM, hM, hMf⟩, hb3⟩
  have hM3 := (Mod.refl (fun _ => False) w2).after hb3
  replace hD := hD.out.mod hM3 (fun h => h)
  replace hR := hR.out.mod hM3 (fun h => h)
  have hlt2 := hD.lt
  have h23 := hb3.size
  replace hMf := Lib.hid hMf
  replace hO := own_below hO hb3
  replace hb3 := hb2.trans (hb3.mono hb2.size)
  clear k1 hM3 hT0 hM0 hb1 hb2
  have ho1 := Lib.hid (World.ownsRow_made (base := w3.heap.size) (e := 58) (size := 2) w3 #[] 0 (Nat.le_refl _) (by unfold maxLen; omega) rfl)
  have hlow1 := Lib.hid (new_below w3 (.cells #[] 58))
  have hEA := Lib.hid (hM.below hlow1.out)
  have hz1 := Lib.hid hlow1.out.size
  have hMl := Lib.hid (show M.length = (M.map stV).length by rw [List.length_map])
  have hall := Lib.hid (stV_all M)
  replace hD := Lib.hid hD
  replace hR := Lib.hid hR
  replace hM := Lib.hid hM
  replace hO := Lib.hid hO
  replace hb3 := Lib.hid hb3
  go_upto_region 4 with (first | (refine wpList_bs0 rfl 26 0 rfl _ _ (rsl_stZ _) ?_) |
      (refine wpList_appE st_el rfl _ _ rfl w3.heap.size hz1.out _ 0 [] rfl ho1.out (by omega) qM M.length dM _ rfl hEA.out hMl.out (by omega) hall.out ?_; intro v6 w6 hO6 hg6))
  have hlow6 := grown_low hlow1.out (Nat.le_refl _) (Nat.le_refl _) ho1.out hg6
  rw [Nat.zero_add, List.nil_append] at hO6
  obtain ⟨qN, nN, dN, rfl⟩ := own_isS hO6
  obtain ⟨hEN, hnN, hdN, hNf⟩ := own_els (R := M.map stV) (stV_len _) (by rw [List.length_map]; exact hO6) (by rw [List.length_map]; omega)
  rw [List.length_map] at hnN
  subst hnN
  replace hNf := Lib.hid hNf
  have hcN := own_cap hO6
  have hM6 := (Mod.refl (fun _ => False) w3).after hlow6
  have hD6 := hD.out.mod hM6 (fun h => h)
  have hR6 := hR.out.mod hM6 (fun h => h)
  have k3 := hD6.cell g3
  have k4 := hD6.cell g4
  have k5 := hD6.cell g5
  have hx3 : 0 ≤ x % 3 ∧ x % 3 < 3 := ⟨Int.emod_nonneg _ (by omega), Int.emod_lt_of_pos _ (by omega)⟩
  clear ho1 hlow1 hEA hz1 hg6 hall hMl hM6
  go_cut [25] from 16 to 25 (fun s25 wx => s25 = .bool (decide (0 < M.length) && (x % 3 == 0)) ∧ wx = w6)
  case first =>
    by_cases hM0 : 0 < M.length
    · have hM0I : (0 : Int) < (M.length : Int) := by omega
      have hd : decide (0 < M.length) = true := decide_eq_true hM0
      go_wp2_with fail
      go_meet
      exact ⟨by rw [hd, Bool.true_and], rfl⟩
    · have hM0I : ¬ (0 : Int) < (M.length : Int) := by omega
      have hd : decide (0 < M.length) = false := decide_eq_false hM0
      go_wp2_with fail
      go_meet
      exact ⟨by rw [hd, Bool.false_and], rfl⟩
  case rest =>
  obtain ⟨rfl, hwc⟩ := hcut
  rw [hwc]
  clear hwc
  go_upto_if 25 with fail
  generalize hb : (decide (0 < M.length) && (x % 3 == 0)) = b
  replace hb := Lib.hid hb
  go_cut [6] from 26 to 40 (fun s6 wx => s6 = .slice qN M.length dN ∧ (∃ N : List (Int × Int), N.length = M.length ∧ (∀ s ∈ N, wf64 s.1) ∧ Els wx qN 2 (N.map stV)) ∧ Below w3.heap.size w3 wx)
  case first =>
    cases b
    · clear hb
      go_wp2_with fail
      go_meet
      exact ⟨rfl, ⟨M, rfl, hlw.out, hEN⟩, hlow6⟩
    · have hM0 : 0 < M.length := by
        have h1 := hb.out
        rw [Bool.and_eq_true] at h1
        exact of_decide_eq_true h1.1
      obtain ⟨g, CN, rfl, hBN, hgN, _⟩ := ownS_blk hO6 hM0
      clear hb
      obtain ⟨i, hi⟩ : ∃ i, (y % (M.length : Int)).toNat = i := ⟨_, rfl⟩
      have hm1 := Int.emod_nonneg y (show (M.length : Int) ≠ 0 by omega)
      have hm2 := Int.emod_lt_of_pos y (show (0 : Int) < (M.length : Int) by omega)
      have hii : Hid ((i : Int) = y % (M.length : Int)) := Lib.hid (by omega)
      have hiM : i < M.length := by omega
      have hiI : (i : Int) < (M.length : Int) := by omega
      have hi0 : (0 : Int) ≤ (i : Int) := by omega
      have hz9 : 0 ≤ z % 9 ∧ z % 9 < 9 := ⟨Int.emod_nonneg _ (by omega), Int.emod_lt_of_pos _ (by omega)⟩
      have s1 : IntKind.i64.wrap y = y := IntWalk.i64_in _ (by omega)
      have s2 : IntKind.i64.wrap z = z := IntWalk.i64_in _ (by omega)
      have s3 : IntKind.i64.wrap (z % 9) = z % 9 := IntWalk.i64_in _ (by omega)
      have k4L : ∀ x : Later (fun _ => False) w6, x.val.cell? ⟨w.heap.size, 4, none⟩ = some (.int .u8 y) := fun x => x.cell k4 (fun h => h)
      have k5L : ∀ x : Later (fun _ => False) w6, x.val.cell? ⟨w.heap.size, 5, none⟩ = some (.int .u8 z) := fun x => x.cell k5 (fun h => h)
      replace hBN := Lib.hid hBN
      replace hEN := Lib.hid hEN
      replace hlow6 := Lib.hid hlow6
      replace hO6 := Lib.hid hO6
      clear k3 k4 k5 hi hm1 hm2 hM0 hD6 hR6
      go_wp2_with fail
      refine wp_region_then (C := fun w' => ∃ x : Later (fun _ => False) w6, w' = x.val) 15 (by kernel_rfl) (by kernel_rfl) ⟨⟨_, (Mod.refl _ _).drew⟩, rfl⟩ ?_
      simp only [List.take_succ_cons, List.take_zero]
      iterate 7 (go_big_quiet_step (fail))
      refine wpQuiet_v rfl (.int .i64 i) (by rintro _ ⟨j, rfl⟩; exact run_rem64 rfl rfl rfl (by omega) (by omega) hii.out (by omega)) ?_
      simp only [Act.put, List.setIfInBounds_toArray, List.set_cons_succ, List.set_cons_zero]
      iterate 7 (go_big_quiet_step (fail))
      refine wpQuiet_nil ?_
      rintro _ ⟨zz, rfl⟩
      have hBz := hBN.out.mod zz.mod (fun h => h)
      have hbz := zz.mod.below (Nat.le_refl w6.heap.size) (fun _ h => h.elim)
      have hEz := hEN.out.below hbz
      have hlz := hlow6.out.trans (hbz.mono hlow6.out.size)
      have hlM : i < (M.map stV).length := by rw [List.length_map]; exact hiM
      have hES := els_set hBz hEz hlM (J := 0) (by omega) (.int .i64 (z % 9))
      have hNe : (M.map stV).set i ((M.map stV)[i].set 0 (.int .i64 (z % 9))) = (M.set i (z % 9, M[i].2)).map stV := by
        rw [List.map_set]
        congr 1
        rw [List.getElem_map]
        rfl
      rw [hNe, Nat.add_zero] at hES
      have c2 := hEz.cells _ rfl i (stV M[i]) 0 (.int .i64 M[i].1) (by rw [List.getElem?_map, List.getElem?_eq_getElem hiM]; rfl) rfl
      rw [add0, Nat.add_zero] at c2
      have f2 := hBz.froz (i * 2)
      have hlS := hlz.setCell (p := ⟨g, i * 2, none⟩) hgN (.int .i64 (z % 9))
      have hNw : ∀ s ∈ M.set i (z % 9, M[i].2), wf64 s.1 := fun s hs => by
        rcases List.mem_or_eq_of_mem_set hs with h | rfl
        · exact hlw.out s h
        · unfold wf64; dsimp only; omega
      have hNl : (M.set i (z % 9, M[i].2)).length = M.length := List.length_set
      clear hNe
      generalize M.set i (z % 9, M[i].2) = N at hES hNw hNl
      replace hES := Lib.hid hES
      replace hlS := Lib.hid hlS
      replace hNl := Lib.hid hNl
      clear hBN hEN hlow6 hBz hbz hEz hlz k4L k5L hO6 hii hlM
      refine wpAny_ready (rs := [15]) (by kernel_rfl) (by simp) ?_
      refine AllReady.cons rfl (fun K hK => ?_) AllReady.nil
      go_simp
      refine hK _ _ ?_
      clear hK K
      refine wpAny_done (by kernel_rfl) ?_ _
      go_wp2_with fail
      go_meet
      exact ⟨rfl, ⟨N, hNl.out, hNw, hES.out⟩, hlS.out⟩
  case rest =>
  obtain ⟨rfl, ⟨N, hNl, hNw, hN⟩, hlc⟩ := hcut
  clear hb k3 k4 k5 hD6 hR6 hlow6 hEN hO6
  have hMc := (Mod.refl (fun _ => False) w3).after hlc
  replace hD := hD.out.mod hMc (fun h => h)
  replace hR := hR.out.mod hMc (fun h => h)
  replace hO := own_below hO.out hlc
  replace hM := hM.out.below hlc
  replace hb3 := hb3.out.trans (hlc.mono hb3.out.size)
  have h3c := hlc.size
  replace hNl := Lib.hid hNl
  replace hNw := Lib.hid hNw
  clear hMc hlc
  have k3 := hD.cell g3
  have k4 := hD.cell g4
  have k5 := hD.cell g5
  replace hD := Lib.hid hD
  replace hR := Lib.hid hR
  replace hO := Lib.hid hO
  replace hM := Lib.hid hM
  replace hN := Lib.hid hN
  replace hb3 := Lib.hid hb3
  go_upto_region 6 with fail
  generalize hwc : wc = w7 at *
  clear hwc
  go_cut [50] from 41 to 50 (fun s50 wx => s50 = .bool (decide (0 < T.length) && (x % 3 == 1)) ∧ wx = w7)
  case first =>
    by_cases hM0 : 0 < T.length
    · have hM0I : (0 : Int) < (T.length : Int) := by omega
      have hd : decide (0 < T.length) = true := decide_eq_true hM0
      go_wp2_with fail
      go_meet
      exact ⟨by rw [hd, Bool.true_and], rfl⟩
    · have hM0I : ¬ (0 : Int) < (T.length : Int) := by omega
      have hd : decide (0 < T.length) = false := decide_eq_false hM0
      go_wp2_with fail
      go_meet
      exact ⟨by rw [hd, Bool.false_and], rfl⟩
  case rest =>
  obtain ⟨rfl, hwc⟩ := hcut
  rw [hwc]
  clear hwc
  go_upto_if 50 with fail
  generalize hb : (decide (0 < T.length) && (x % 3 == 1)) = b
  replace hb := Lib.hid hb
  obtain ⟨hTE, -, hdT, -⟩ := own_els (R := T.map rqV) (rqV_len _) (by rw [List.length_map]; exact hO.out) (by rw [List.length_map]; omega)
  replace hTE := Lib.hid hTE
  go_cut [4] from 51 to 60 (fun s4 wx => s4 = .slice qT T.length dT ∧ (∃ T' : List Rq, T'.length = T.length ∧ Els wx qT 10 (T'.map rqV)) ∧ Mod (fun k => ∃ a, qT = some a ∧ k = a.block) w7 wx)
  case first =>
    cases b
    · clear hb
      go_wp2_with fail
      go_meet
      exact ⟨rfl, ⟨T, rfl, hTE.out⟩, Mod.refl _ _⟩
    · have hM0 : 0 < T.length := by
        have h1 := hb.out
        rw [Bool.and_eq_true] at h1
        exact of_decide_eq_true h1.1
      obtain ⟨g, CN, rfl, hBN, hgN, _⟩ := ownS_blk hO.out hM0
      clear hb
      obtain ⟨i, hi⟩ : ∃ i, (y % (T.length : Int)).toNat = i := ⟨_, rfl⟩
      have hm1 := Int.emod_nonneg y (show (T.length : Int) ≠ 0 by omega)
      have hm2 := Int.emod_lt_of_pos y (show (0 : Int) < (T.length : Int) by omega)
      have hii : Hid ((i : Int) = y % (T.length : Int)) := Lib.hid (by omega)
      have hiM : i < T.length := by omega
      have hiI : (i : Int) < (T.length : Int) := by omega
      have hi0 : (0 : Int) ≤ (i : Int) := by omega
      have s1 : IntKind.i64.wrap y = y := IntWalk.i64_in _ (by omega)
      have hlM : i < (T.map rqV).length := by rw [List.length_map]; exact hiM
      have hES := els_set hBN hTE.out hlM (J := 8) (by omega) (.int .i64 0)
      have hNe : (T.map rqV).set i ((T.map rqV)[i].set 8 (.int .i64 0)) = (T.set i (fun j => if j = 8 then 0 else T[i] j)).map rqV := by
        rw [List.map_set]
        congr 1
        rw [List.getElem_map]
        exact rq_set8 _
      rw [hNe] at hES
      have c2 := hTE.out.cells _ rfl i (rqV T[i]) 8 (.int .i64 (T[i] 8)) (by rw [List.getElem?_map, List.getElem?_eq_getElem hiM]; rfl) rfl
      rw [add0] at c2
      have f2 := hBN.froz (i * 10 + 8)
      have hMS := (Mod.refl (fun k => ∃ a, some (⟨g, 0, none⟩ : Addr) = some a ∧ k = a.block) w7).setCell (p := ⟨g, i * 10 + 8, none⟩) (fun _ => ⟨_, rfl, rfl⟩) (.int .i64 0)
      have hNl : (T.set i (fun j => if j = 8 then 0 else T[i] j)).length = T.length := List.length_set
      clear hNe
      generalize T.set i (fun j => if j = 8 then 0 else T[i] j) = T' at hES hNl
      replace hES := Lib.hid hES
      replace hMS := Lib.hid hMS
      replace hNl := Lib.hid hNl
      clear hBN hi hm1 hm2 hM0
      go_wp2_with (first | (refine wpList_v rfl (.int .i64 i) (run_rem64 rfl rfl rfl (by omega) (by omega) hii.out (by omega)) ?_))
      go_meet
      exact ⟨rfl, ⟨T', hNl.out, hES.out⟩, hMS.out⟩
  case rest =>
  obtain ⟨rfl, ⟨T', hTl', hT'⟩, hmT⟩ := hcut
  have hTb : ∀ a, qT = some a → w1.heap.size ≤ a.block ∧ a.block < w2.heap.size := fun a ha => hOlt.out a.block (by rw [ha]; rfl)
  have hD' := hD.out.mod hmT (by rintro ⟨a, ha, e⟩; have := hTb a ha; omega)
  have hR' := hR.out.mod hmT (by rintro ⟨a, ha, e⟩; have := hTb a ha; omega)
  have hM' := els_modD hM.out hmT (fun b hb => by rintro ⟨a, ha, e⟩; have := hTb a ha; have := hMf.out b hb; omega)
  have hN' := els_modD hN.out hmT (fun b hb => by rintro ⟨a, ha, e⟩; have := hTb a ha; have := (hNf.out b hb).1; omega)
  have hb4 := hb3.out.trans (hmT.below hb3.out.size (by rintro k ⟨a, ha, e⟩; have := hTb a ha; omega))
  have hnT := Lib.hid (fun a (ha : qT = some a) => (by have := hTb a ha; omega : a.block ≠ w.heap.size + 1))
  have hnM := Lib.hid (fun a (ha : qM = some a) => (by have := hMf.out a ha; omega : a.block ≠ w.heap.size + 1))
  have hnN := Lib.hid (fun a (ha : qN = some a) => (by have := (hNf.out a ha).1; omega : a.block ≠ w.heap.size + 1))
  clear hb hD hR hM hN hb3 hTE hO hOlt hMf hNf hmT hTb k3 k4 k5
  have k6 := hD'.cell g6
  have k6L : ∀ x : Later (fun _ => False) wc, x.val.cell? ⟨w.heap.size, 6, none⟩ = some (.slice ps S.length cs) := fun x => x.cell k6 (fun h => h)
  obtain ⟨m, hm⟩ : ∃ m, (S.take 20).length = m := ⟨_, rfl⟩
  have hm2 : m = min 20 S.length := by rw [← hm, List.length_take]
  have hmI : Hid ((m : Int) = min (S.length : Int) 20) := Lib.hid (by omega)
  have hmc : m ≤ cs := by omega
  have hm100 : m ≤ 100 := by omega
  have hOw := Lib.hid (fun s (hs : s ∈ S.take 20) => hSw.out s (List.mem_of_mem_take hs))
  generalize S.take 20 = O at *
  replace hm := Lib.hid hm
  replace hTl' := Lib.hid hTl'
  replace hD' := Lib.hid hD'
  replace hR' := Lib.hid hR'
  replace hM' := Lib.hid hM'
  replace hN' := Lib.hid hN'
  replace hT' := Lib.hid hT'
  replace hb4 := Lib.hid hb4
  clear hm2 k6
  go_upto_region 8 with fail
  refine wp_region_then (C := fun w' => ∃ x : Later (fun _ => False) wc, w' = x.val) 12 (by kernel_rfl) (by kernel_rfl) ⟨⟨_, (Mod.refl _ _).drew⟩, rfl⟩ ?_
  simp only [List.take_succ_cons, List.take_zero]
  iterate 8 (go_big_quiet_step (fail))
  refine wpQuiet_v rfl (.int .i64 m) (by rintro _ ⟨j, rfl⟩; exact run_minI hmI.out rfl rfl rfl) ?_
  simp only [Act.put, List.setIfInBounds_toArray, List.set_cons_succ, List.set_cons_zero]
  refine wpQuiet_v rfl (.slice ps m cs) (by rintro _ ⟨j, rfl⟩; exact run_slSoD rfl rfl rfl hmc) ?_
  simp only [Act.put, List.setIfInBounds_toArray, List.set_cons_succ, List.set_cons_zero]
  refine wpQuiet_v rfl (.agg #[.slice qM M.length dM, .slice qN M.length dN, .slice ps m cs]) (by rintro _ ⟨j, rfl⟩; exact run_bld3 rfl rfl rfl rfl) ?_
  simp only [Act.put, List.setIfInBounds_toArray, List.set_cons_succ, List.set_cons_zero]
  go_big_quiet_step (fail)
  refine wpQuiet_nil ?_
  rintro _ ⟨zz, rfl⟩
  have hRz := hR'.out.mod zz.mod (fun h => h)
  refine wpAny_sw (i := 12) (by kernel_rfl) rfl rfl rfl (run_storeP rfl rfl rfl (run_storeVar_row _ (w.heap.size + 1) 34 _ #[.slice qM M.length dM, .slice qN M.length dN, .slice ps m cs] _ hRz rfl (fun v hv => by simp at hv; rcases hv with rfl | rfl | rfl <;> rfl) (by kernel_rfl))) ?_
  have hmz := (zz.mod.mono (T := fun k => k = w.heap.size + 1) (fun _ _ h => h.elim)).trans
    (⟨rfl, rfl, rfl, by simp [World.setRow], fun k _ (hk : ¬ (k = w.heap.size + 1)) => setRow_other zz.val (w.heap.size + 1) k _ hk⟩ : Mod (fun k => k = w.heap.size + 1) zz.val (zz.val.setRow (w.heap.size + 1) #[.slice qM M.length dM, .slice qN M.length dN, .slice ps m cs]))
  have hBf := setRow_heap zz.val (w.heap.size + 1) _ #[.slice qM M.length dM, .slice qN M.length dN, .slice ps m cs] _ (0, 0) hRz
  generalize zz.val.setRow (w.heap.size + 1) #[.slice qM M.length dM, .slice qN M.length dN, .slice ps m cs] = wf at *
  have hbf := hb4.out.trans (hmz.below hb4.out.size (by omega))
  have hTf := els_modD hT'.out hmz hnT.out
  have hMf := els_modD hM'.out hmz hnM.out
  have hNf := els_modD hN'.out hmz hnN.out
  have hOf := hSb.out wf hbf
  refine wpAny_done (by kernel_rfl) ?_ _
  go_wp2_with fail
  have hOm := hm.out
  rw [← hTl'.out]
  exact bodyPost_ret (res_tc rfl rfl (run_load_row' (P := Try.prog) _ _ 34 _ 34 _ hBf Try.underlying34 rfl (by kernel_rfl))) rfl ⟨⟨T', M, N, O, qT, qM, qN, ps, dT, dM, dN, cs, by rw [hOm, hNl.out]; rfl, hTf, hMf, hNf, hOf, hdM, ⟨by rw [hNl.out]; exact hdN, hcN⟩, ⟨by omega, hSc.2⟩, ⟨by omega, by rw [hNl.out]; omega, by omega⟩, hlw.out, hNw.out, hOw.out⟩, hbf⟩
end Go.Proofs.Ytaijimckbpplnaa
