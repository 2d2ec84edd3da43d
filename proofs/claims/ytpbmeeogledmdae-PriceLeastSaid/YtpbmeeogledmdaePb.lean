/-
  Layer 13, the program's: Price.
-/
import Derived.Test.YtpbmeeogledmdaePa
import Derived.Test.YtpbmeeogledmdaeCa
import Derived.Test.YtpbmeeogledmdaeFs
namespace Go.Proofs.Ytpbmeeogledmdae
open Go.RowKit

/-- one new box, and what is put into it: where a region that draws stands -/
structure ClB (Z C : Array Value) (t : TypeId) (w : World) (x : Nat) (b1 b2 : Bool) (W : World) : Prop where
  m : Mod (fun _ => False) w W
  x0 : b1 = true → Blk W x (bif b2 then C else Z) t ∧ w.heap.size ≤ x
section
variable {Z C : Array Value} {t : TypeId} {w W : World} {x : Nat} {b1 b2 : Bool}
theorem ClB.mod (h : ClB Z C t w x b1 b2 W) {W' : World} (hm : Mod (fun _ => False) W W') : ClB Z C t w x b1 b2 W' :=
  ⟨h.m.trans hm, fun e => ⟨(h.x0 e).1.mod hm (fun h => h), (h.x0 e).2⟩⟩
theorem ClB.box (h : ClB Z C t w x b1 false W) : ClB Z C t w W.heap.size true false (W.alloc (.cells Z t)) :=
  ⟨h.m.alloc _, fun _ => ⟨Blk.new W _ _, h.m.size⟩⟩
theorem ClB.put (h : ClB Z C t w x true b2 W) : ClB Z C t w x true true (W.setRow x C) :=
  have hx := h.x0 rfl
  have hm := mod_row W x C
  ⟨⟨h.m.os, h.m.tape, h.m.output, by simpa [World.setRow] using h.m.size, fun k hk hs => (hm.block k (Nat.lt_of_lt_of_le hk h.m.size) (by show ¬ _ = _; omega)).trans (h.m.block k hk hs)⟩,
    fun _ => ⟨setRow_heap W x _ C t (0, 0) hx.1, hx.2⟩⟩
end
section
variable {ρ : Operand → Value} {o : Oper} {w : World} {x y z u : Operand}
theorem run_allocW (ho : o.op = .alloc 120) : (execOp ρ o).run Try.prog w = .ok (.value (.pointer (some ⟨w.heap.size, 0, none⟩))) (w.alloc (.cells (tmV (0, 0, 0)).toArray 120)) := by
  unfold execOp
  simp only [ho]
  kernel_rfl
theorem run_callBest {a b c d : Value} (ho : o.op = .call { callee := .value (.func 45), args := #[x, y, z, u], argTypes := #[47, 48, 30, 3] }) (hx : ρ x = a) (hy : ρ y = b) (hz : ρ z = c) (hu : ρ u = d)
    (hf : ρ (.func 45) = .func (.func 45) #[] #[] := by rfl) : (execOp ρ o).run Try.prog w = .ok (.enter 45 #[a, b, c, d]) w := by
  unfold execOp
  simp only [ho]
  go_simp
theorem run_ixTr {a : Addr} {n c k : Nat} (ho : o.op = .indexAddr 73 x y) (hx : ρ x = .slice (some a) n c) (hy : ρ y = .int .i64 k) (hk : k < n) : (execOp ρ o).run Try.prog w = .ok (.value (.pointer (some (a.add (k * 6))))) w := by
  have h0 : (0 : Int) ≤ (k : Int) := by omega
  have h1 : (k : Int) < (n : Int) := by omega
  have h2 : ((k : Int)).toNat = k := by omega
  unfold execOp
  simp only [ho, hx, hy]
  go_simp
theorem run_cellSt {p : Addr} {q : Option Addr} {n c : Nat} (h : w.cell? p = some (.slice q n c)) : (loadVar 48 p).run Try.prog w = .ok (.slice q n c) w := by go_simp
end
theorem tr_one (v : Ve) (q : Option Addr × Nat) (n : Nat) : ∀ u ∈ trV v q n, u.oneCell' = true := by simp [trV, Value.oneCell']
/-- a tour, out of the row of tours -/
theorem ld_tour {w : World} {a : Addr} {fl : List Ve} {rows : List Rou2} {qs : List (Option Addr × Nat)} (h : Els w (some a) 6 (trs fl rows qs)) {i : Nat} (hi : i < fl.length) :
    (loadVar 78 (a.add (i * 6))).run Try.prog w = .ok (.agg (trV (fl.getD i ve0) (qs.getD i (none, 0)) (rows.getD i []).length).toArray) w := by
  have hi' : i < (trs fl rows qs).length := by rw [trs_len]; exact hi
  have := h.load (P := Try.prog) (a := a) rfl (k := i) hi' (ty := 78) Try.underlying78 rfl (by kernel_rfl)
  have e := trs_at fl rows qs hi
  rw [List.getElem?_eq_getElem hi'] at e
  rw [Option.some.inj e] at this
  exact this
set_option maxHeartbeats 4000000 in
set_option maxRecDepth 100000 in
theorem price_calls {w : World} {F : Nat → Prop} {b gT gM N : Nat} {fl : List Ve} {rows : List Rou2} {t : List Rq} (h : PlanAt w F b gT gM N fl rows t) (req : Int) (hq : wf64 req) :
    Calls Try.prog 21 #[.pointer (some ⟨b, 0, none⟩), .int .i64 req] w fun e w' => e = .returned (.tuple #[.int .i64 (prcP fl rows t req).1, .int .i64 (prcP fl rows t req).2.1, .int .i64 (prcP fl rows t req).2.2]) ∧ Below w.heap.size w w' := by
  have hh := Lib.hid (has_calls h req hq)
  have hX : prcP fl rows t req = if req < 0 ∨ (t.length : Int) ≤ req then ((0, 0, 8) : Int × Int × Int) else if 0 ≤ whereP rows req then (0, 0, 13) else match prcK fl rows t req fl.length with | none => (0, 0, 12) | some p => ((p.1 : Int), p.2, 0) := rfl
  obtain ⟨qT, dT, cT, qs, h⟩ := h
  obtain ⟨sK, vK, rK, hK0, hKs, hKe⟩ : ∃ (sK : Nat → Bool) (vK rK : Nat → Int), (sK 0 = false ∧ vK 0 = 0 ∧ rK 0 = 0) ∧
      (∀ k, ((bestV (fl.getD k ve0) (rows.getD k []) t req).2 ≠ 0 → sK (k + 1) = sK k ∧ vK (k + 1) = vK k ∧ rK (k + 1) = rK k) ∧
        ((bestV (fl.getD k ve0) (rows.getD k []) t req).2 = 0 → (sK k = true ∧ rK k ≤ (bestV (fl.getD k ve0) (rows.getD k []) t req).1.2.2 → sK (k + 1) = sK k ∧ vK (k + 1) = vK k ∧ rK (k + 1) = rK k) ∧
          ((sK k = false ∨ ¬ rK k ≤ (bestV (fl.getD k ve0) (rows.getD k []) t req).1.2.2) → sK (k + 1) = true ∧ vK (k + 1) = (k : Int) ∧ rK (k + 1) = (bestV (fl.getD k ve0) (rows.getD k []) t req).1.2.2))) ∧
      (match prcK fl rows t req fl.length with | none => ((0 : Int), (0 : Int), (12 : Int)) | some p => ((p.1 : Int), p.2, 0)) = if sK fl.length = true then (vK fl.length, rK fl.length, 0) else (0, 0, 12) := by
    have e1 : ∀ k, (bestV (fl.getD k ve0) (rows.getD k []) t req).2 ≠ 0 → prcK fl rows t req (k + 1) = prcK fl rows t req k := fun k h1 => if_pos h1
    have e2 : ∀ k, (bestV (fl.getD k ve0) (rows.getD k []) t req).2 = 0 → prcK fl rows t req (k + 1) = match prcK fl rows t req k with
      | none => some (k, (bestV (fl.getD k ve0) (rows.getD k []) t req).1.2.2)
      | some p => if p.2 ≤ (bestV (fl.getD k ve0) (rows.getD k []) t req).1.2.2 then some p else some (k, (bestV (fl.getD k ve0) (rows.getD k []) t req).1.2.2) := fun k h1 => if_neg (by omega)
    refine ⟨fun k => (prcK fl rows t req k).isSome, fun k => ((prcK fl rows t req k).map fun p => (p.1 : Int)).getD 0, fun k => ((prcK fl rows t req k).map fun p => p.2).getD 0, ⟨rfl, rfl, rfl⟩, fun k => ⟨fun h1 => ?_, fun h1 => ⟨fun h2 => ?_, fun h2 => ?_⟩⟩, ?_⟩
    · dsimp only
      rw [e1 k h1]
      exact ⟨rfl, rfl, rfl⟩
    · dsimp only at h2 ⊢
      rw [e2 k h1]
      cases hp : prcK fl rows t req k with
      | none => rw [hp] at h2; simp at h2
      | some p =>
        rw [hp] at h2
        have h3 : p.2 ≤ (bestV (fl.getD k ve0) (rows.getD k []) t req).1.2.2 := by simpa using h2.2
        dsimp only
        rw [if_pos h3]
        exact ⟨rfl, rfl, rfl⟩
    · dsimp only at h2 ⊢
      rw [e2 k h1]
      cases hp : prcK fl rows t req k with
      | none => exact ⟨rfl, rfl, rfl⟩
      | some p =>
        rw [hp] at h2
        have h3 : ¬ p.2 ≤ (bestV (fl.getD k ve0) (rows.getD k []) t req).1.2.2 := by simpa using h2
        dsimp only
        rw [if_neg h3]
        exact ⟨rfl, rfl, rfl⟩
    · cases hp : prcK fl rows t req fl.length with
      | none => simp [hp]
      | some p => simp [hp]
  rw [hKe] at hX
  clear hKe
  have hb0 := Lib.hid (fun k wx (hb : Below w.heap.size w wx) => best_calls (fl.getD k ve0 0) (fl.getD k ve0 1) (fl.getD k ve0 2) (fl.getD k ve0 3) (fl.getD k ve0 4) req (qs.getD k (none, 0)).1 qT (qs.getD k (none, 0)).2 dT (rows.getD k []) t wx ((h.row k).below hb) (h.cap k).1 (h.req.below hb))
  have hfl := h.many.1
  have htb := h.req.big
  rw [List.length_map] at htb
  have hbox := h.box
  obtain ⟨aT, haT⟩ : ∃ aT : Addr, (⟨gT, 0, none⟩ : Addr) = aT := ⟨_, rfl⟩
  have hto := h.tours
  rw [haT] at hbox hto
  have hld := Lib.hid (fun k (hk : k < fl.length) wx (hb : Below w.heap.size w wx) => ld_tour (hto.below hb) hk)
  generalize prcP fl rows t req = X at hX ⊢
  generalize whereP rows req = wh at *
  have k0 := hbox.cell (i := 0) rfl
  have k1 := hbox.cell (i := 1) rfl
  replace hX := Lib.hid hX
  replace hbox := Lib.hid hbox
  have hKs' := Lib.hid hKs
  obtain ⟨z1, z2, z3⟩ := hK0
  replace z1 := Lib.hid z1
  replace z2 := Lib.hid z2
  replace z3 := Lib.hid z3
  generalize hTT : t.length = T at *
  replace hTT := Lib.hid hTT
  clear h hto haT hKs
  by_cases c1 : req < 0
  · obtain rfl : X = (0, 0, 8) := by rw [hX.out, if_pos (.inl c1)]
    clear hX hb0 hld hKs' hh k0 k1 hq
    go_enter Try.func21, Try.ntmps21
    go_wp2_with fail
    go_ret3
    exact ⟨rfl, Below.refl _ _⟩
  by_cases c2 : (T : Int) ≤ req
  · obtain rfl : X = (0, 0, 8) := by rw [hX.out, if_pos (.inr c2)]
    clear hX hb0 hld hKs' hh k1 hq
    go_enter Try.func21, Try.ntmps21
    go_wp2_with fail
    go_ret3
    exact ⟨rfl, Below.refl _ _⟩
  by_cases c3 : 0 ≤ wh
  · obtain rfl : X = (0, 0, 13) := by rw [hX.out, if_neg (by omega), if_pos c3]
    have hh' := hh.out
    rw [decide_eq_true c3] at hh'
    replace hh := Lib.hid hh'
    clear hh' hX hb0 hld hKs' k1 hq c3
    go_enter Try.func21, Try.ntmps21
    go_wp2_with fail
    refine hh.out.mono ?_
    rintro e w1 ⟨rfl, rfl⟩
    go_wp2_with fail
    go_ret3
    exact ⟨rfl, Below.refl _ _⟩
  have hX2 : Hid (X = if sK fl.length = true then (vK fl.length, rK fl.length, 0) else (0, 0, 12)) := Lib.hid (by rw [hX.out, if_neg (by omega), if_neg c3])
  have hh' := hh.out
  rw [decide_eq_false c3] at hh'
  replace hh := Lib.hid hh'
  clear hh' hX c3 hq
  go_enter Try.func21, Try.ntmps21
  go_wp2_with fail
  refine hh.out.mono ?_
  rintro e w0 ⟨rfl, rfl⟩
  clear hh
  go_wp2_with fail
  go_loopw [36, 7, 4, 5] (fun s36 s7 s4 s5 wx => ∃ k : Nat, k ≤ fl.length ∧ s36 = .int .i64 k ∧ s7 = .bool (sK k) ∧ s4 = .int .i64 (vK k) ∧ s5 = .int .i64 (rK k) ∧ Below w.heap.size w wx) (fun s36 _ _ _ _ => fl.length - (intOf s36).toNat)
  case atStart => exact ⟨0, Nat.zero_le _, rfl, by rw [z1.out], by rw [z2.out], by rw [z3.out], Below.refl _ _⟩
  case round =>
    obtain ⟨k, hk, rfl, rfl, rfl, rfl, hb⟩ := hrel
    by_cases hlt : k < fl.length
    · have hltI : (k : Int) < (fl.length : Int) := by omega
      have hk0 : (0 : Int) ≤ (k : Int) := by omega
      have s1 : IntKind.i64.wrap ((k : Int) + 1) = (k : Int) + 1 := IntWalk.i64_in _ (by omega)
      have hl := hld.out k hlt wr hb
      obtain ⟨V, hV⟩ : ∃ V, (veR (fl.getD k ve0)).toArray = V := ⟨_, rfl⟩
      obtain ⟨Y, hY⟩ : ∃ Y, (trV (fl.getD k ve0) (qs.getD k (none, 0)) (rows.getD k []).length).toArray = Y := ⟨_, rfl⟩
      have hYs : Y.size = 6 := by rw [← hY]; rfl
      have hY1 : ∀ u ∈ Y.toList, u.oneCell' = true := by rw [← hY]; exact tr_one _ _ _
      have hYv : Y.extract 0 (0 + 5) = V := by rw [← hY, ← hV]; rfl
      have hYq : Y[5]? = some (.slice (qs.getD k (none, 0)).1 (rows.getD k []).length (qs.getD k (none, 0)).2) := by rw [← hY]; rfl
      have hb1 := hb0.out k
      have hst := hKs'.out k
      change ∀ wx, Below w.heap.size w wx → Calls Try.prog 45 #[.agg (veR (fl.getD k ve0)).toArray, _, _, _] wx (fun e w' => e = .returned (.tuple #[.agg (tmV (bestV (fl.getD k ve0) (rows.getD k []) t req).1).toArray, .int .i64 (bestV (fl.getD k ve0) (rows.getD k []) t req).2]) ∧ Below wx.heap.size wx w') at hb1
      rw [hV] at hb1
      rw [hY] at hl
      clear hY hV
      obtain ⟨B, be, hBe⟩ : ∃ B be, bestV (fl.getD k ve0) (rows.getD k []) t req = (B, be) := ⟨_, _, rfl⟩
      rw [hBe] at hb1 hst
      dsimp only at hb1 hst
      clear hBe
      generalize (qs.getD k (none, 0)).1 = qk at *
      generalize (qs.getD k (none, 0)).2 = dk at *
      generalize (rows.getD k []).length = n at *
      have hpre := Lib.hid (show Blk (wr.alloc (.cells Y 78)) wr.heap.size Y 78 ∧ Below w.heap.size w (wr.alloc (.cells Y 78)) from ⟨Blk.new _ _ _, hb.alloc hb.size _⟩)
      have hkk := (hbox.out.mod ((Mod.refl (fun _ => False) _).after hb) (fun h => h)).cell (i := 1) rfl
      have hsz := hb.size
      replace hl := Lib.hid hl
      replace hYs := Lib.hid hYs
      replace hY1 := Lib.hid hY1
      replace hYv := Lib.hid hYv
      replace hYq := Lib.hid hYq
      replace hb1 := Lib.hid hb1
      replace hst := Lib.hid hst
      clear hb
      go_upto_region 11 with (first | (refine wpList_v rfl (.pointer (some (aT.add (k * 6)))) (run_ixTr (k := k) rfl rfl rfl (by omega)) ?_) | (refine wpList_load_v rfl 78 _ rfl (aT.add (k * 6)) rfl _ hl.out ?_) |
        (refine wpList_store_new rfl 78 _ _ rfl rfl rfl _ Y _ rfl hYs.out.symm hY1.out (by rw [hYs.out]; kernel_rfl) ?_))
      generalize hg : wr.heap.size = g at *
      refine wp_world' (fun wx => Blk wx g Y 78 ∧ Below w.heap.size w wx) hpre.out ?_
      clear hpre hg hl hkk
      rintro w1 ⟨hG, hb⟩
      have hm1 := (Mod.refl (fun _ => False) w).after hb
      have hlv := Lib.hid (fun (wx : World) (h : Mod (fun _ => False) w1 wx) => (by
        rw [load_part (P := Try.prog) wx g Y 78 (hG.mod h (fun h => h)) 0 5 (by rw [hYs.out]; omega) 47 _ Try.underlying47 rfl (by kernel_rfl), hYv.out] : (loadVar 47 ⟨g, 0, none⟩).run Try.prog wx = .ok (.agg V) wx))
      have hlq := Lib.hid (fun (wx : World) (h : Mod (fun _ => False) w1 wx) => run_cellSt ((hG.mod h (fun h => h)).cell hYq.out))
      have hlt := Lib.hid (fun (wx : World) (h : Mod (fun _ => False) w1 wx) => run_cellRq (((hbox.out.mod hm1 (fun h => h)).mod h (fun h => h)).cell (i := 0) rfl))
      have hbest := Lib.hid (fun (wx : World) (h : Mod (fun _ => False) w1 wx) => hb1.out wx (hb.trans (h.below hb.size (fun _ h => h.elim))))
      replace hb := Lib.hid hb
      clear hG hm1 hb1
      refine wp_region_rove (X := Nat) 0 (fun x => [(42, .pointer (some ⟨g, 0, none⟩)), (43, .agg V), (44, .pointer (some ⟨g, 5, none⟩)), (45, .slice qk n dk), (46, .pointer (some ⟨b, 0, none⟩)), (47, .pointer (some ⟨b, 0, none⟩)), (48, .pointer (some ⟨b, 0, none⟩)), (49, .slice qT T dT), (50, .int .i64 req), (51, .tuple #[.agg (tmV B).toArray, .int .i64 be]), (41, .tuple #[.agg (tmV B).toArray, .int .i64 be]), (52, .agg (tmV B).toArray), (53, .int .i64 be), (10, .pointer (some ⟨x, 0, none⟩)), (11, .int .i64 be)])
        (fun x d W' => ClB (tmV (0, 0, 0)).toArray (tmV B).toArray 120 w1 x (d 13) (d 14) W') (by kernel_rfl) (by kernel_rfl) (by kernel_rfl) (by kernel_rfl) (fun x => by kernel_rfl)
        ⟨(Mod.refl _ _).drew, (fun h => by cases h)⟩ ?_ ?_
      · intro aF hAF
        have E9 : ∀ x, (aF x).eval (.tmp 9) = .pointer (some ⟨g, 0, none⟩) := by intro x; rw [hAF]; kernel_rfl
        have E0 : ∀ x, (aF x).eval (.tmp 0) = .pointer (some ⟨b, 0, none⟩) := by intro x; rw [hAF]; kernel_rfl
        have E1 : ∀ x, (aF x).eval (.tmp 1) = .int .i64 req := by intro x; rw [hAF]; kernel_rfl
        have T42 : ∀ x, (aF x).tmps[42]? = some (.pointer (some ⟨g, 0, none⟩)) := by intro x; rw [hAF]; kernel_rfl
        have E42 : ∀ x, (aF x).eval (.tmp 42) = .pointer (some ⟨g, 0, none⟩) := by intro x; rw [hAF]; kernel_rfl
        have T43 : ∀ x, (aF x).tmps[43]? = some (.agg V) := by intro x; rw [hAF]; kernel_rfl
        have E43 : ∀ x, (aF x).eval (.tmp 43) = .agg V := by intro x; rw [hAF]; kernel_rfl
        have T44 : ∀ x, (aF x).tmps[44]? = some (.pointer (some ⟨g, 5, none⟩)) := by intro x; rw [hAF]; kernel_rfl
        have E44 : ∀ x, (aF x).eval (.tmp 44) = .pointer (some ⟨g, 5, none⟩) := by intro x; rw [hAF]; kernel_rfl
        have T45 : ∀ x, (aF x).tmps[45]? = some (.slice qk n dk) := by intro x; rw [hAF]; kernel_rfl
        have E45 : ∀ x, (aF x).eval (.tmp 45) = .slice qk n dk := by intro x; rw [hAF]; kernel_rfl
        have T46 : ∀ x, (aF x).tmps[46]? = some (.pointer (some ⟨b, 0, none⟩)) := by intro x; rw [hAF]; kernel_rfl
        have E46 : ∀ x, (aF x).eval (.tmp 46) = .pointer (some ⟨b, 0, none⟩) := by intro x; rw [hAF]; kernel_rfl
        have T47 : ∀ x, (aF x).tmps[47]? = some (.pointer (some ⟨b, 0, none⟩)) := by intro x; rw [hAF]; kernel_rfl
        have E47 : ∀ x, (aF x).eval (.tmp 47) = .pointer (some ⟨b, 0, none⟩) := by intro x; rw [hAF]; kernel_rfl
        have T48 : ∀ x, (aF x).tmps[48]? = some (.pointer (some ⟨b, 0, none⟩)) := by intro x; rw [hAF]; kernel_rfl
        have E48 : ∀ x, (aF x).eval (.tmp 48) = .pointer (some ⟨b, 0, none⟩) := by intro x; rw [hAF]; kernel_rfl
        have T49 : ∀ x, (aF x).tmps[49]? = some (.slice qT T dT) := by intro x; rw [hAF]; kernel_rfl
        have E49 : ∀ x, (aF x).eval (.tmp 49) = .slice qT T dT := by intro x; rw [hAF]; kernel_rfl
        have T50 : ∀ x, (aF x).tmps[50]? = some (.int .i64 req) := by intro x; rw [hAF]; kernel_rfl
        have E50 : ∀ x, (aF x).eval (.tmp 50) = .int .i64 req := by intro x; rw [hAF]; kernel_rfl
        have T51 : ∀ x, (aF x).tmps[51]? = some (.tuple #[.agg (tmV B).toArray, .int .i64 be]) := by intro x; rw [hAF]; kernel_rfl
        have E51 : ∀ x, (aF x).eval (.tmp 51) = .tuple #[.agg (tmV B).toArray, .int .i64 be] := by intro x; rw [hAF]; kernel_rfl
        have T41 : ∀ x, (aF x).tmps[41]? = some (.tuple #[.agg (tmV B).toArray, .int .i64 be]) := by intro x; rw [hAF]; kernel_rfl
        have E41 : ∀ x, (aF x).eval (.tmp 41) = .tuple #[.agg (tmV B).toArray, .int .i64 be] := by intro x; rw [hAF]; kernel_rfl
        have T52 : ∀ x, (aF x).tmps[52]? = some (.agg (tmV B).toArray) := by intro x; rw [hAF]; kernel_rfl
        have E52 : ∀ x, (aF x).eval (.tmp 52) = .agg (tmV B).toArray := by intro x; rw [hAF]; kernel_rfl
        have T53 : ∀ x, (aF x).tmps[53]? = some (.int .i64 be) := by intro x; rw [hAF]; kernel_rfl
        have E53 : ∀ x, (aF x).eval (.tmp 53) = .int .i64 be := by intro x; rw [hAF]; kernel_rfl
        have T10 : ∀ x, (aF x).tmps[10]? = some (.pointer (some ⟨x, 0, none⟩)) := by intro x; rw [hAF]; kernel_rfl
        have E10 : ∀ x, (aF x).eval (.tmp 10) = .pointer (some ⟨x, 0, none⟩) := by intro x; rw [hAF]; kernel_rfl
        have T11 : ∀ x, (aF x).tmps[11]? = some (.int .i64 be) := by intro x; rw [hAF]; kernel_rfl
        have E11 : ∀ x, (aF x).eval (.tmp 11) = .int .i64 be := by intro x; rw [hAF]; kernel_rfl
        replace hAF := Lib.hid hAF
        refine ⟨?_, ?_, ?_, ?_, ?_, ?_, ?_, ?_, ?_, ?_, ?_, ?_, ?_, ?_, ?_, ?_, trivial⟩
        · exact opOk3_quiet _ (by intro x t hd _; cases hd; exact T42 x) (fun _ => rfl) fun x d w' hd hc => sv (run_fldT rfl (E9 x) (fun _ => by kernel_rfl)) hc
        · exact opOk3_quiet _ (by intro x t hd _; cases hd; exact T43 x) (fun _ => rfl) fun x d w' hd hc => sv (run_load1 rfl (E42 x) (hlv.out _ hc.m)) hc
        · exact opOk3_quiet _ (by intro x t hd _; cases hd; exact T44 x) (fun _ => rfl) fun x d w' hd hc => sv (run_fldT rfl (E9 x) (fun _ => by kernel_rfl)) hc
        · exact opOk3_quiet _ (by intro x t hd _; cases hd; exact T45 x) (fun _ => rfl) fun x d w' hd hc => sv (run_load1 rfl (E44 x) (hlq.out _ hc.m)) hc
        · exact opOk3_quiet _ (by intro x t hd _; cases hd; exact T46 x) (fun _ => rfl) fun x d w' hd hc => sv (run_mov rfl (E0 x)) hc
        · exact opOk3_quiet _ (by intro x t hd _; cases hd; exact T47 x) (fun _ => rfl) fun x d w' hd hc => sv (run_nilP rfl (E46 x)) hc
        · exact opOk3_quiet _ (by intro x t hd _; cases hd; exact T48 x) (fun _ => rfl) fun x d w' hd hc => sv (run_fldT rfl (E47 x) (fun _ => by kernel_rfl)) hc
        · exact opOk3_quiet _ (by intro x t hd _; cases hd; exact T49 x) (fun _ => rfl) fun x d w' hd hc => sv (run_load1 rfl (E48 x) (hlt.out _ hc.m)) hc
        · exact opOk3_quiet _ (by intro x t hd _; cases hd; exact T50 x) (fun _ => rfl) fun x d w' hd hc => sv (run_mov rfl (E1 x)) hc
        · exact opOk3_quiet _ (by intro x t hd _; cases hd; exact T51 x) (fun _ => rfl) fun x d w' hd hc => sc (run_callBest rfl (E43 x) (E45 x) (E49 x) (E50 x)) ((hbest.out w' hc.m).mono fun e w'' h => ⟨h.1, hc.mod ((Mod.refl _ _).after h.2)⟩)
        · exact opOk3_quiet _ (by intro x t hd _; cases hd; exact T41 x) (fun _ => rfl) fun x d w' hd hc => sv (run_mov rfl (E51 x)) hc
        · exact opOk3_quiet _ (by intro x t hd _; cases hd; exact T52 x) (fun _ => rfl) fun x d w' hd hc => sv (run_ext rfl (E41 x) rfl) hc
        · exact opOk3_quiet _ (by intro x t hd _; cases hd; exact T53 x) (fun _ => rfl) fun x d w' hd hc => sv (run_ext rfl (E41 x) rfl) hc
        · exact opOk3_loud rfl fun x d w' hd hn hc => by
              have n4 : d 14 = false := hn 14 (by kernel_rfl)
              rw [n4] at hc
              refine sk_v (run_allocW rfl) ?_
              refine ⟨w'.heap.size, (by rw [hAF.out]; exact agree_set 13 (10, .pointer (some ⟨x, 0, none⟩)) rfl (by kernel_rfl)), (by intro t hd _; cases hd; exact T10 _), ?_⟩
              show ClB _ _ _ w1 _ true (d 14) _
              rw [n4]
              exact hc.box
        · exact opOk3_loud rfl fun x d w' hd hn hc => by
              have n2 : d 13 = true := hd 13 (by kernel_rfl)
              rw [n2] at hc
              refine sk_s (run_storeP (ty := 120) rfl (E10 x) (E52 x) (run_storeVar_row w' x 120 _ (tmV B).toArray 120 (hc.x0 rfl).1 (by cases d 14 <;> rfl) (tm_one _) (by kernel_rfl))) ⟨x, agree_same _ _, (by intro t hd _; cases hd), ?_⟩
              show ClB _ _ _ w1 _ (d 13) true _
              rw [n2]
              exact hc.put
        · exact opOk3_quiet _ (by intro x t hd _; cases hd; exact T11 x) (fun _ => rfl) fun x d w' hd hc => sv (run_asg rfl (E53 x)) hc
      · intro x d w' hd hc
        simp only [putAll, List.foldl_cons, List.foldl_nil, Act.put, List.setIfInBounds_toArray, List.set_cons_succ, List.set_cons_zero]
        rw [hd 13 (by decide), hd 14 (by decide)] at hc
        obtain ⟨hB, hx⟩ := hc.x0 rfl
        have hB : Blk w' x (tmV B).toArray 120 := hB
        have hbw := hb.out.trans (hc.m.below hb.out.size (fun _ h => h.elim))
        have k2 := hB.cell (i := 2) (v := .int .i64 B.2.2) rfl
        have hBl := Lib.hid hB
        replace hbw := Lib.hid hbw
        obtain ⟨g1, g2⟩ := hst.out
        clear hc hd hb hlv hlq hlt hbest hst hYs hY1 hYv hYq
        have hld2 := Lib.hid (run_i64 k2)
        by_cases e0 : be = 0
        · subst e0
          obtain ⟨g3, g4⟩ := g2 rfl
          generalize hs : sK k = s at *
          generalize hr : rK k = r at *
          cases s with
          | true =>
            by_cases c4 : r ≤ B.2.2
            · obtain ⟨f1, f2, f3⟩ := g3 ⟨rfl, c4⟩
              have F1 := Lib.hid f1
              have F2 := Lib.hid f2
              have F3 := Lib.hid f3
              clear f1 f2 f3 g1 g2 g3 g4 hs hr
              go_wp2_with (first | (refine wpList_load_v rfl 3 _ rfl ⟨x, 2, none⟩ rfl _ hld2.out ?_))
              go_roundw
              case rel => exact ⟨k + 1, by omega, by simp, by rw [F1.out], by rw [F2.out], by rw [F3.out], hbw.out⟩
              case measure => simp [intOf]; omega
            · obtain ⟨f1, f2, f3⟩ := g4 (.inr (by omega))
              have F1 := Lib.hid f1
              have F2 := Lib.hid f2
              have F3 := Lib.hid f3
              clear f1 f2 f3 g1 g2 g3 g4 hs hr
              go_upto_region 13 with (first | (refine wpList_load_v rfl 3 _ rfl ⟨x, 2, none⟩ rfl _ hld2.out ?_))
              go_quiet (fail)
              go_wp2
              go_roundw
              case rel => exact ⟨k + 1, by omega, by simp, by rw [F1.out], by rw [F2.out], by rw [F3.out], below_drewN hbw.out _⟩
              case measure => simp [intOf]; omega
          | false =>
            obtain ⟨f1, f2, f3⟩ := g4 (.inl rfl)
            have F1 := Lib.hid f1
            have F2 := Lib.hid f2
            have F3 := Lib.hid f3
            clear f1 f2 f3 g1 g2 g3 g4 hs hr
            go_upto_region 13 with (first | (refine wpList_load_v rfl 3 _ rfl ⟨x, 2, none⟩ rfl _ hld2.out ?_))
            go_quiet (fail)
            go_wp2
            go_roundw
            case rel => exact ⟨k + 1, by omega, by simp, by rw [F1.out], by rw [F2.out], by rw [F3.out], below_drewN hbw.out _⟩
            case measure => simp [intOf]; omega
        · have e1 : (be == 0) = false := beq_eq_false_iff_ne.2 e0
          obtain ⟨f1, f2, f3⟩ := g1 e0
          have F1 := Lib.hid f1
          have F2 := Lib.hid f2
          have F3 := Lib.hid f3
          clear f1 f2 f3 g1 g2
          go_wp2_with fail
          go_roundw
          case rel => exact ⟨k + 1, by omega, by simp, by rw [F1.out], by rw [F2.out], by rw [F3.out], hbw.out⟩
          case measure => simp [intOf]; omega
    · obtain rfl : k = fl.length := by omega
      have hX3 := hX2.out
      replace hb := Lib.hid hb
      generalize sK fl.length = s at *
      generalize vK fl.length = v at *
      generalize rK fl.length = r at *
      cases s with
      | true =>
        rw [if_pos rfl] at hX3
        replace hX3 := Lib.hid hX3
        clear hX2 hKs' hb0 hld
        go_wp2_with fail
        go_ret3
        rw [hX3.out]
        exact ⟨rfl, hb.out⟩
      | false =>
        rw [if_neg (by simp)] at hX3
        replace hX3 := Lib.hid hX3
        clear hX2 hKs' hb0 hld
        go_wp2_with fail
        go_ret3
        rw [hX3.out]
        exact ⟨rfl, hb.out⟩
end Go.Proofs.Ytpbmeeogledmdae
