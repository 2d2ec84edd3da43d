/-
  Layer 13, the program's: Put.
-/
import Derived.Test.YtpbmeeogledmdaePa
import Derived.Test.YtpbmeeogledmdaePb
namespace Go.Proofs.Ytpbmeeogledmdae
open Go.RowKit

/-- a new row, and it stored at a place: where a region that draws stands -/
def ClR (l : Rou2) (p : Addr) (w : World) (x : Option Addr × Nat) (b1 b2 : Bool) (W : World) : Prop :=
  ∃ W4, Mod (fun _ => False) w W4 ∧ (b1 = true → Els W4 x.1 2 (l.map stV) ∧ (l.length ≤ x.2 ∧ x.2 ≤ 9223372036854775807) ∧ (l ≠ [] → ∀ a, x.1 = some a → w.heap.size ≤ a.block ∧ a.block < W4.heap.size)) ∧
    W = bif b2 then W4.setCell p (.slice x.1 l.length x.2) else W4
theorem ClR.m {l : Rou2} {p : Addr} {w W : World} {x : Option Addr × Nat} {b1 : Bool} (h : ClR l p w x b1 false W) : Mod (fun _ => False) w W := by
  obtain ⟨W4, hm, _, rfl⟩ := h
  exact hm
theorem ClR.start {l : Rou2} {p : Addr} {w W : World} {x : Option Addr × Nat} (h : Mod (fun _ => False) w W) : ClR l p w x false false W := ⟨W, h, (fun h => by cases h), rfl⟩
theorem ClR.put {l : Rou2} {p : Addr} {w W : World} {x : Option Addr × Nat} (h : ClR l p w x true false W) : ClR l p w x true true (W.setCell p (.slice x.1 l.length x.2)) := by
  obtain ⟨W4, hm, h1, rfl⟩ := h
  exact ⟨W, hm, h1, rfl⟩
theorem els_lt {W : World} {p : Option Addr} {n : Nat} {R : List (List Value)} (h : Els W p (n + 1) R) (h0 : R ≠ []) {a : Addr} (ha : p = some a) : a.block < W.heap.size := by
  cases R with
  | nil => exact absurd rfl h0
  | cons r R =>
    have hl := h.len r List.mem_cons_self
    have h1 := h.cells a ha 0 r 0 r[0] rfl (List.getElem?_eq_getElem (by omega))
    have h2 := World.block_lt_of_cell? W _ h1
    unfold Addr.add at h2
    split at h2 <;> exact h2
theorem ClR.call {l : Rou2} {p : Addr} {w W W' : World} {q : Option Addr} {d : Nat} (hm : Mod (fun _ => False) w W) (hb : Below W.heap.size W W') (hE : Els W' q 2 (l.map stV)) (hc : l.length ≤ d ∧ d ≤ 9223372036854775807) (hf : ∀ a, q = some a → W.heap.size ≤ a.block) : ClR l p w (q, d) true false W' :=
  ⟨W', hm.after hb, fun _ => ⟨hE, hc, fun h0 a ha => ⟨Nat.le_trans hm.size (hf a ha), els_lt hE (fun e => h0 (List.map_eq_nil_iff.1 e)) ha⟩⟩, rfl⟩
theorem opOk3_quietL {P : Program} {ops : Array Oper} {md : Region.Mode} {X : Type} {aF : X → Act} {Cl : X → (Nat → Bool) → World → Prop} {i : Nat} {o : Oper} (v : X → Value) (hv : ∀ x t, o.dst = some t → t < (aF x).tmps.size → (aF x).tmps[t]? = some (v x)) (hw : ∀ x, Region.wanted o (yielded ops (aF x).tmps) = true)
    (h : ∀ x d w, (∀ r, waits md ops i r = true → d r = true) → (∀ c, (lateOf md ops i).contains c = true → d c = false) → Cl x d w → stageUpon P (Cl x (upd d i)) (v x) ((execOp (aF x).eval o).run P w)) : OpOk3 P md ops aF Cl i o := fun x d w hd hn hC => by
  rw [if_pos (hw x)]
  have hup := h x d w hd hn hC
  generalize (execOp (aF x).eval o).run P w = r at hup
  cases r with
  | ok n w' =>
    cases n <;> simp only [stageUpon] at hup <;> simp only [upon2]
    case value u => exact ⟨x, agree_same _ _, by rw [hup.1]; exact hv x, hup.2⟩
    case skip => exact ⟨x, agree_same _ _, by rw [← hup.1]; exact hv x, hup.2⟩
    case enter f args =>
      refine hup.mono fun e w'' hh => ?_
      exact ⟨_, hh.1, x, agree_same _ _, hv x, hh.2⟩
  | halt x w' => simp only [stageUpon] at hup
section
variable {ρ : Operand → Value} {o : Oper} {w : World} {x y z u : Operand}
theorem run_callCput {a b c d : Value} (ho : o.op = .call { callee := .value (.func 36), args := #[x, y, z, u], argTypes := #[47, 48, 30, 3] }) (hx : ρ x = a) (hy : ρ y = b) (hz : ρ z = c) (hu : ρ u = d)
    (hf : ρ (.func 36) = .func (.func 36) #[] #[] := by rfl) : (execOp ρ o).run Try.prog w = .ok (.enter 36 #[a, b, c, d]) w := by
  unfold execOp
  simp only [ho]
  go_simp
theorem run_fldTA {a : Addr} {f n : Nat} {ty : TypeId} (ho : o.op = .fieldAddr ty x f) (hx : ρ x = .pointer (some a)) (hf : ∀ w, (Instr.fieldAt ty (.pointer (some a)) f).run Try.prog w = .ok (.pointer (some (a.add n))) w) :
    (execOp ρ o).run Try.prog w = .ok (.value (.pointer (some (a.add n)))) w := by
  unfold execOp; simp only [ho, hx, Sem.run_bind, hf, Result.andThen_ok, Sem.run_pure]
theorem run_storeS {p : Addr} {q : Option Addr} {m c : Nat} {v : Value} (ho : o.op = .store 48 x y) (hx : ρ x = .pointer (some p)) (hy : ρ y = .slice q m c) (hc : w.cell? p = some v) (hf : w.frozen? p = false) :
    (execOp ρ o).run Try.prog w = .ok .skip (w.setCell p (.slice q m c)) := by
  unfold execOp
  simp only [ho, hx, hy]
  go_simp
end
theorem addr_offP (g o n : Nat) : (⟨g, o, none⟩ : Addr).add n = ⟨g, o + n, none⟩ := by unfold Addr.add; split <;> simp_all
theorem run_ixTr0 {ρ : Operand → Value} {o : Oper} {w : World} {x y : Operand} {g n c k : Nat} (ho : o.op = .indexAddr 73 x y) (hx : ρ x = .slice (some ⟨g, 0, none⟩) n c) (hy : ρ y = .int .i64 k) (hk : k < n) : (execOp ρ o).run Try.prog w = .ok (.value (.pointer (some ⟨g, k * 6, none⟩))) w := by
  have := run_ixTr (w := w) ho hx hy hk
  rwa [addr0P] at this
theorem fldT0 (a : Addr) (w : World) : (Instr.fieldAt 78 (.pointer (some a)) 0).run Try.prog w = .ok (.pointer (some (a.add 0))) w := by kernel_rfl
theorem fldT1 (a : Addr) (w : World) : (Instr.fieldAt 78 (.pointer (some a)) 1).run Try.prog w = .ok (.pointer (some (a.add 5))) w := by kernel_rfl
theorem exec_mapUP {P : Program} {ρ : Operand → Value} {o : Oper} {w w' : World} {x y z : Operand} {t : TypeId} {b : Nat} {i v : Int} (ho : o.op = .mapUpdate t x y z) (hx : ρ x = .map (some b)) (hy : ρ y = .int .i64 i) (hz : ρ z = .int .i64 v)
    (hrun : (Instr.mapUpdate t (.map (some b)) (.int .i64 i) (.int .i64 v)).run P w = .ok () w') : (execOp ρ o).run P w = .ok .skip w' := by
  simp [execOp, ho, hx, hy, hz, hrun, Result.andThen]
theorem wf_small {n : Nat} (h : n ≤ 1000) : wf64 (n : Int) := by unfold wf64; omega
set_option maxHeartbeats 4000000 in
set_option maxRecDepth 100000 in
theorem put_no_calls {w : World} {F : Nat → Prop} {b gT gM N : Nat} {fl : List Ve} {rows : List Rou2} {t : List Rq} (h : PlanAt w F b gT gM N fl rows t) (req : Int) (hq : wf64 req) (he : (prcP fl rows t req).2.2 ≠ 0) :
    Calls Try.prog 14 #[.pointer (some ⟨b, 0, none⟩), .int .i64 req] w fun e w' => e = .returned (.tuple #[.int .i64 0, .int .i64 (prcP fl rows t req).2.2]) ∧ Below w.heap.size w w' := by
  have hp := Lib.hid (price_calls h req hq)
  obtain ⟨x, y, e, hX⟩ : ∃ x y e, prcP fl rows t req = (x, y, e) := ⟨_, _, _, rfl⟩
  rw [hX] at hp he ⊢
  dsimp only at hp he ⊢
  have d1 : (e == 0) = false := beq_eq_false_iff_ne.2 he
  clear h hX
  go_enter Try.func14, Try.ntmps14
  go_wp2_with fail
  refine hp.out.mono ?_
  rintro e w1 ⟨rfl, hb⟩
  replace hb := Lib.hid hb
  go_wp2_with fail
  go_ret2
  exact ⟨rfl, hb.out⟩
set_option maxHeartbeats 4000000 in
set_option maxRecDepth 100000 in
theorem pput_calls {w : World} {F : Nat → Prop} {b gT gM N : Nat} {fl : List Ve} {rows : List Rou2} {t : List Rq} (hP : PlnOk fl rows t) (h : PlanAt w F b gT gM N fl rows t) (hN : N < 1000000) (req : Int) (hq : wf64 req) :
    Calls Try.prog 14 #[.pointer (some ⟨b, 0, none⟩), .int .i64 req] w fun e w' => e = .returned (.tuple #[.int .i64 (pputP fl rows t req).2.1, .int .i64 (pputP fl rows t req).2.2]) ∧
      PlanAt w' (fun k => F k ∨ (w.heap.size ≤ k ∧ k < w'.heap.size)) b gT gM (N + 1) fl (pputP fl rows t req).1 t ∧ Mod (fun k => k = gT ∨ k = gM) w w' := by
  by_cases he : (prcP fl rows t req).2.2 ≠ 0
  · rw [put_no he]
    refine (put_no_calls h req hq he).mono ?_
    rintro e w' ⟨rfl, hb⟩
    refine ⟨rfl, ?_, (Mod.refl _ _).after hb⟩
    obtain ⟨qT, dT, cT, qs, h⟩ := h.below hb
    exact ⟨qT, dT, cT, qs, h.box, h.req, h.tb, h.tours, h.map.mono (by omega), h.row, h.cap, fun i a ha hr => by have := h.rowB i a ha hr; exact ⟨.inl this.1, this.2⟩, fun a ha hr => by have := h.reqB a ha hr; exact ⟨.inl this.1, this.2⟩, .inl h.fb, .inl h.fT, .inl h.fM,
      h.ne1, h.ne2, h.ne3, fun k hk => by rcases hk with hk | hk; exact h.lt k hk; exact hk.2, h.len, h.lenq, h.many, h.tcap⟩
  have he0 : (prcP fl rows t req).2.2 = 0 := by omega
  have hpr := Lib.hid (price_calls h req hq)
  have hkeep := put_keeps hP req
  obtain ⟨i, a, c, hi, hac, hcl, hl14, hr, hwh, hR, hrn, hcp, hpp, hpu⟩ := put_ok hP he0
  rw [hpp] at hpr
  rw [hpu] at hkeep ⊢
  dsimp only at hpr hkeep ⊢
  have hwm := whM_put hP hi hac hcl hwh hkeep
  have hrl : (withL (rows.getD i []) req a c).length ≤ 16 := by rw [withL_len _ _ hac hcl]; omega
  generalize hL : withL (rows.getD i []) req a c = L at *
  generalize hrs : riseV (fl.getD i ve0) (rows.getD i []) t req a c = rs at *
  obtain ⟨qT, dT, cT, qs, h⟩ := h
  have hput := Lib.hid (fun wx (hb : Below w.heap.size w wx) => cput_calls (fl.getD i ve0 0) (fl.getD i ve0 1) (fl.getD i ve0 2) (fl.getD i ve0 3) (fl.getD i ve0 4) req (qs.getD i (none, 0)).1 qT (qs.getD i (none, 0)).2 dT (rows.getD i []) t wx ((h.row i).below hb) (h.cap i).1 (h.req.below hb))
  have hput' : ∀ wx, Below w.heap.size w wx → Calls Try.prog 36 #[.agg (veR (fl.getD i ve0)).toArray, .slice (qs.getD i (none, 0)).1 (rows.getD i []).length (qs.getD i (none, 0)).2, .slice qT t.length dT, .int .i64 req] wx (CpPost wx (L, rs, 0)) := fun wx hb => by
    have := hput.out wx hb
    unfold cputV at hcp
    rw [hcp] at this
    exact this
  unfold CpPost at hput'
  dsimp only at hput'
  replace hput := Lib.hid hput'
  clear hput'
  have hto := h.tours
  have hfl := h.many.1
  have hlen : i < (trs fl rows qs).length := by rw [trs_len]; exact hi
  have hT0 := h.lt gT h.fT
  have hM0 := h.lt gM h.fM
  have hcell := fun wx (hb : Mod (fun _ => False) w wx) (j : Nat) (v : Value) (hj : (trV (fl.getD i ve0) (qs.getD i (none, 0)) (rows.getD i []).length)[j]? = some v) => (by
    have := (els_modP hto hb (fun _ _ _ h => h)).cells _ rfl i _ j v (trs_at fl rows qs hi) hj
    rwa [addr0P] at this : wx.cell? ⟨gT, i * 6 + j, none⟩ = some v)
  have hfz := Lib.hid (fun wx (hb : Mod (fun _ => False) w wx) => (by obtain ⟨C, hC⟩ := h.tb; exact (hC.mod hb (fun h => h)).froz (i * 6 + 5) : wx.frozen? ⟨gT, i * 6 + 5, none⟩ = false))
  have hk5 := Lib.hid (fun wx (hb : Mod (fun _ => False) w wx) => hcell wx hb 5 _ rfl)
  have hlv := Lib.hid (fun wx (hb : Mod (fun _ => False) w wx) => run_loadVar_at (P := Try.prog) wx ⟨gT, i * 6, none⟩ 47 (veR (fl.getD i ve0)) _ (fun j v hj => (by
    rw [addr_offP]
    refine hcell wx hb j v ?_
    match j with
    | 0 => exact hj
    | 1 => exact hj
    | 2 => exact hj
    | 3 => exact hj
    | 4 => exact hj
    | j + 5 => simp [veR] at hj)) Try.underlying47 rfl (by kernel_rfl))
  have hlq := Lib.hid (fun wx (hb : Mod (fun _ => False) w wx) => run_cellSt (hk5.out wx hb))
  have hlt := Lib.hid (fun wx (hb : Mod (fun _ => False) w wx) => run_cellRq ((h.box.mod hb (fun h => h)).cell (i := 0) rfl))
  have hk1 := Lib.hid (fun wx (hb : Mod (fun _ => False) w wx) => (h.box.mod hb (fun h => h)).cell (i := 1) rfl)
  have hk2 := Lib.hid (fun wx (hb : Mod (fun _ => False) w wx) => (h.box.mod hb (fun h => h)).cell (i := 2) rfl)
  have hwf := wf_small (show i ≤ 1000 by omega)
  have hH := Lib.hid h
  have hset := Lib.hid (fun (C : Array Value) (wx : World) (hb : Mod (fun _ => False) w wx) (hB : Blk wx gT C 78) q d => (by
    have := els_setP hB (els_modP hto hb (fun _ _ _ h => h)) hlen (J := 5) (by omega) (.slice q L.length d)
    rwa [trs_set fl rows qs hi h.len h.lenq L q d hlen] at this : Els (wx.setCell ⟨gT, i * 6 + 5, none⟩ (.slice q L.length d)) (some ⟨gT, 0, none⟩) 6 (trs fl (rows.set i L) (qs.set i (q, d)))))
  have hbg : b ≠ gT ∧ b ≠ gM ∧ gT ≠ gM := ⟨h.ne1, h.ne2, h.ne3⟩
  generalize (veR (fl.getD i ve0)).toArray = V at *
  generalize (rows.getD i []).length = n at *
  generalize (qs.getD i (none, 0)).1 = qi at *
  generalize (qs.getD i (none, 0)).2 = di at *
  generalize hTT : t.length = T at *
  replace hTT := Lib.hid hTT
  replace hwm := Lib.hid hwm
  replace hcell := Lib.hid hcell
  clear h hto hlen hcl hrl hR hcp hpp hpu hkeep hwh hl14 hr hP he he0 hcell
  go_enter Try.func14, Try.ntmps14
  go_wp2_with fail
  refine hpr.out.mono ?_
  rintro e w1 ⟨rfl, hb1⟩
  have hm1 := (Mod.refl (fun _ => False) w).after hb1
  have k1 := hk1.out w1 hm1
  replace hm1 := Lib.hid hm1
  clear hpr hb1
  go_upto_region 5 with (refine wpList_v rfl (.pointer (some ⟨gT, i * 6, none⟩)) (run_ixTr0 (k := i) rfl rfl rfl hi) ?_)
  refine wp_region_rove (X := Option Addr × Nat) (none, 0) (fun x => [(25, .pointer (some ⟨gT, i * 6, none⟩)), (26, .pointer (some ⟨gT, i * 6, none⟩)), (27, .pointer (some ⟨gT, i * 6, none⟩)), (28, .pointer (some ⟨gT, i * 6, none⟩)), (29, .agg V), (30, .pointer (some ⟨gT, i * 6, none⟩)), (31, .pointer (some ⟨gT, i * 6, none⟩)), (32, .pointer (some ⟨gT, i * 6 + 5, none⟩)), (33, .slice qi n di), (34, .pointer (some ⟨b, 0, none⟩)), (35, .pointer (some ⟨b, 0, none⟩)), (36, .pointer (some ⟨b, 0, none⟩)), (37, .slice qT T dT), (38, .int .i64 req), (41, .int .i64 rs), (42, .int .i64 0), (43, .pointer (some ⟨gT, i * 6, none⟩)), (44, .pointer (some ⟨gT, i * 6 + 5, none⟩)), (4, .int .i64 rs), (5, .int .i64 0)] ++ [(39, .tuple #[.slice x.1 L.length x.2, .int .i64 rs, .int .i64 0]), (24, .tuple #[.slice x.1 L.length x.2, .int .i64 rs, .int .i64 0]), (40, .slice x.1 L.length x.2)])
    (fun x d W' => ClR L ⟨gT, i * 6 + 5, none⟩ w x (d 14) (d 21) W') (by kernel_rfl) (by kernel_rfl) (by kernel_rfl) (by kernel_rfl) (fun x => by kernel_rfl)
    (ClR.start hm1.out.drew) ?_ ?_
  · intro aF hAF
    have E0 : ∀ x, (aF x).eval (.tmp 0) = .pointer (some ⟨b, 0, none⟩) := by intro x; rw [hAF]; kernel_rfl
    have E1 : ∀ x, (aF x).eval (.tmp 1) = .int .i64 req := by intro x; rw [hAF]; kernel_rfl
    have E7 : ∀ x, (aF x).eval (.tmp 7) = .pointer (some ⟨gT, i * 6, none⟩) := by intro x; rw [hAF]; kernel_rfl
    have T25 : ∀ x, (aF x).tmps[25]? = some (.pointer (some ⟨gT, i * 6, none⟩)) := by intro x; rw [hAF]; kernel_rfl
    have E25 : ∀ x, (aF x).eval (.tmp 25) = .pointer (some ⟨gT, i * 6, none⟩) := by intro x; rw [hAF]; kernel_rfl
    have T26 : ∀ x, (aF x).tmps[26]? = some (.pointer (some ⟨gT, i * 6, none⟩)) := by intro x; rw [hAF]; kernel_rfl
    have E26 : ∀ x, (aF x).eval (.tmp 26) = .pointer (some ⟨gT, i * 6, none⟩) := by intro x; rw [hAF]; kernel_rfl
    have T27 : ∀ x, (aF x).tmps[27]? = some (.pointer (some ⟨gT, i * 6, none⟩)) := by intro x; rw [hAF]; kernel_rfl
    have E27 : ∀ x, (aF x).eval (.tmp 27) = .pointer (some ⟨gT, i * 6, none⟩) := by intro x; rw [hAF]; kernel_rfl
    have T28 : ∀ x, (aF x).tmps[28]? = some (.pointer (some ⟨gT, i * 6, none⟩)) := by intro x; rw [hAF]; kernel_rfl
    have E28 : ∀ x, (aF x).eval (.tmp 28) = .pointer (some ⟨gT, i * 6, none⟩) := by intro x; rw [hAF]; kernel_rfl
    have T29 : ∀ x, (aF x).tmps[29]? = some (.agg V) := by intro x; rw [hAF]; kernel_rfl
    have E29 : ∀ x, (aF x).eval (.tmp 29) = .agg V := by intro x; rw [hAF]; kernel_rfl
    have T30 : ∀ x, (aF x).tmps[30]? = some (.pointer (some ⟨gT, i * 6, none⟩)) := by intro x; rw [hAF]; kernel_rfl
    have E30 : ∀ x, (aF x).eval (.tmp 30) = .pointer (some ⟨gT, i * 6, none⟩) := by intro x; rw [hAF]; kernel_rfl
    have T31 : ∀ x, (aF x).tmps[31]? = some (.pointer (some ⟨gT, i * 6, none⟩)) := by intro x; rw [hAF]; kernel_rfl
    have E31 : ∀ x, (aF x).eval (.tmp 31) = .pointer (some ⟨gT, i * 6, none⟩) := by intro x; rw [hAF]; kernel_rfl
    have T32 : ∀ x, (aF x).tmps[32]? = some (.pointer (some ⟨gT, i * 6 + 5, none⟩)) := by intro x; rw [hAF]; kernel_rfl
    have E32 : ∀ x, (aF x).eval (.tmp 32) = .pointer (some ⟨gT, i * 6 + 5, none⟩) := by intro x; rw [hAF]; kernel_rfl
    have T33 : ∀ x, (aF x).tmps[33]? = some (.slice qi n di) := by intro x; rw [hAF]; kernel_rfl
    have E33 : ∀ x, (aF x).eval (.tmp 33) = .slice qi n di := by intro x; rw [hAF]; kernel_rfl
    have T34 : ∀ x, (aF x).tmps[34]? = some (.pointer (some ⟨b, 0, none⟩)) := by intro x; rw [hAF]; kernel_rfl
    have E34 : ∀ x, (aF x).eval (.tmp 34) = .pointer (some ⟨b, 0, none⟩) := by intro x; rw [hAF]; kernel_rfl
    have T35 : ∀ x, (aF x).tmps[35]? = some (.pointer (some ⟨b, 0, none⟩)) := by intro x; rw [hAF]; kernel_rfl
    have E35 : ∀ x, (aF x).eval (.tmp 35) = .pointer (some ⟨b, 0, none⟩) := by intro x; rw [hAF]; kernel_rfl
    have T36 : ∀ x, (aF x).tmps[36]? = some (.pointer (some ⟨b, 0, none⟩)) := by intro x; rw [hAF]; kernel_rfl
    have E36 : ∀ x, (aF x).eval (.tmp 36) = .pointer (some ⟨b, 0, none⟩) := by intro x; rw [hAF]; kernel_rfl
    have T37 : ∀ x, (aF x).tmps[37]? = some (.slice qT T dT) := by intro x; rw [hAF]; kernel_rfl
    have E37 : ∀ x, (aF x).eval (.tmp 37) = .slice qT T dT := by intro x; rw [hAF]; kernel_rfl
    have T38 : ∀ x, (aF x).tmps[38]? = some (.int .i64 req) := by intro x; rw [hAF]; kernel_rfl
    have E38 : ∀ x, (aF x).eval (.tmp 38) = .int .i64 req := by intro x; rw [hAF]; kernel_rfl
    have T41 : ∀ x, (aF x).tmps[41]? = some (.int .i64 rs) := by intro x; rw [hAF]; kernel_rfl
    have E41 : ∀ x, (aF x).eval (.tmp 41) = .int .i64 rs := by intro x; rw [hAF]; kernel_rfl
    have T42 : ∀ x, (aF x).tmps[42]? = some (.int .i64 0) := by intro x; rw [hAF]; kernel_rfl
    have E42 : ∀ x, (aF x).eval (.tmp 42) = .int .i64 0 := by intro x; rw [hAF]; kernel_rfl
    have T43 : ∀ x, (aF x).tmps[43]? = some (.pointer (some ⟨gT, i * 6, none⟩)) := by intro x; rw [hAF]; kernel_rfl
    have E43 : ∀ x, (aF x).eval (.tmp 43) = .pointer (some ⟨gT, i * 6, none⟩) := by intro x; rw [hAF]; kernel_rfl
    have T44 : ∀ x, (aF x).tmps[44]? = some (.pointer (some ⟨gT, i * 6 + 5, none⟩)) := by intro x; rw [hAF]; kernel_rfl
    have E44 : ∀ x, (aF x).eval (.tmp 44) = .pointer (some ⟨gT, i * 6 + 5, none⟩) := by intro x; rw [hAF]; kernel_rfl
    have T4 : ∀ x, (aF x).tmps[4]? = some (.int .i64 rs) := by intro x; rw [hAF]; kernel_rfl
    have E4 : ∀ x, (aF x).eval (.tmp 4) = .int .i64 rs := by intro x; rw [hAF]; kernel_rfl
    have T5 : ∀ x, (aF x).tmps[5]? = some (.int .i64 0) := by intro x; rw [hAF]; kernel_rfl
    have E5 : ∀ x, (aF x).eval (.tmp 5) = .int .i64 0 := by intro x; rw [hAF]; kernel_rfl
    have T39 : ∀ x, (aF x).tmps[39]? = some (.tuple #[.slice x.1 L.length x.2, .int .i64 rs, .int .i64 0]) := by intro x; rw [hAF]; kernel_rfl
    have E39 : ∀ x, (aF x).eval (.tmp 39) = .tuple #[.slice x.1 L.length x.2, .int .i64 rs, .int .i64 0] := by intro x; rw [hAF]; kernel_rfl
    have T24 : ∀ x, (aF x).tmps[24]? = some (.tuple #[.slice x.1 L.length x.2, .int .i64 rs, .int .i64 0]) := by intro x; rw [hAF]; kernel_rfl
    have E24 : ∀ x, (aF x).eval (.tmp 24) = .tuple #[.slice x.1 L.length x.2, .int .i64 rs, .int .i64 0] := by intro x; rw [hAF]; kernel_rfl
    have T40 : ∀ x, (aF x).tmps[40]? = some (.slice x.1 L.length x.2) := by intro x; rw [hAF]; kernel_rfl
    have E40 : ∀ x, (aF x).eval (.tmp 40) = .slice x.1 L.length x.2 := by intro x; rw [hAF]; kernel_rfl
    replace hAF := Lib.hid hAF
    refine ⟨?_, ?_, ?_, ?_, ?_, ?_, ?_, ?_, ?_, ?_, ?_, ?_, ?_, ?_, ?_, ?_, ?_, ?_, ?_, ?_, ?_, ?_, ?_, ?_, trivial⟩
    · exact opOk3_quiet _ (by intro x t hd _; cases hd; exact T25 x) (fun _ => rfl) fun x d w' hd hc => sv (run_mov rfl (E7 x)) hc
    · exact opOk3_quiet _ (by intro x t hd _; cases hd; exact T26 x) (fun _ => rfl) fun x d w' hd hc => sv (run_mov rfl (E7 x)) hc
    · exact opOk3_quiet _ (by intro x t hd _; cases hd; exact T27 x) (fun _ => rfl) fun x d w' hd hc => sv (run_nilP rfl (E26 x)) hc
    · exact opOk3_quiet _ (by intro x t hd _; cases hd; exact T28 x) (fun _ => rfl) fun x d w' hd hc => sv (run_fldT rfl (E27 x) (fun _ => by kernel_rfl)) hc
    · exact opOk3_quietL _ (by intro x t hd _; cases hd; exact T29 x) (fun _ => rfl) fun x d w' hd hn hc => sv (run_load1 rfl (E28 x) (hlv.out _ (ClR.m (by have n := hn 21 (by kernel_rfl); rw [n] at hc; exact hc)))) hc
    · exact opOk3_quiet _ (by intro x t hd _; cases hd; exact T30 x) (fun _ => rfl) fun x d w' hd hc => sv (run_mov rfl (E7 x)) hc
    · exact opOk3_quiet _ (by intro x t hd _; cases hd; exact T31 x) (fun _ => rfl) fun x d w' hd hc => sv (run_nilP rfl (E30 x)) hc
    · exact opOk3_quiet _ (by intro x t hd _; cases hd; exact T32 x) (fun _ => rfl) fun x d w' hd hc => sv (run_fldT rfl (E31 x) (fun _ => by kernel_rfl)) hc
    · exact opOk3_quietL _ (by intro x t hd _; cases hd; exact T33 x) (fun _ => rfl) fun x d w' hd hn hc => sv (run_load1 rfl (E32 x) (hlq.out _ (ClR.m (by have n := hn 21 (by kernel_rfl); rw [n] at hc; exact hc)))) hc
    · exact opOk3_quiet _ (by intro x t hd _; cases hd; exact T34 x) (fun _ => rfl) fun x d w' hd hc => sv (run_mov rfl (E0 x)) hc
    · exact opOk3_quiet _ (by intro x t hd _; cases hd; exact T35 x) (fun _ => rfl) fun x d w' hd hc => sv (run_nilP rfl (E34 x)) hc
    · exact opOk3_quiet _ (by intro x t hd _; cases hd; exact T36 x) (fun _ => rfl) fun x d w' hd hc => sv (run_fldT rfl (E35 x) (fun _ => by kernel_rfl)) hc
    · exact opOk3_quietL _ (by intro x t hd _; cases hd; exact T37 x) (fun _ => rfl) fun x d w' hd hn hc => sv (run_load1 rfl (E36 x) (hlt.out _ (ClR.m (by have n := hn 21 (by kernel_rfl); rw [n] at hc; exact hc)))) hc
    · exact opOk3_quiet _ (by intro x t hd _; cases hd; exact T38 x) (fun _ => rfl) fun x d w' hd hc => sv (run_mov rfl (E1 x)) hc
    · exact opOk3_loud rfl fun x d w' hd hn hc => by
          have n2 : d 21 = false := hn 21 (by kernel_rfl)
          rw [n2] at hc
          have hm := hc.m
          refine sk (run_callCput rfl (E29 x) (E33 x) (E37 x) (E38 x)) ((hput.out w' (hm.below (Nat.le_refl _) (fun _ h => h.elim))).mono ?_)
          rintro e w'' ⟨⟨q, dd, rfl, h2, h3, h4⟩, hb⟩
          refine ⟨_, rfl, (q, dd), (by rw [hAF.out]; exact agree_any (by kernel_rfl) (by kernel_rfl)), (by intro t hd _; cases hd; exact T39 _), ?_⟩
          show ClR L _ w _ true (d 21) _
          rw [n2]
          exact ClR.call hm hb h3 h2 h4
    · exact opOk3_quiet (fun x => .tuple #[.slice x.1 L.length x.2, .int .i64 rs, .int .i64 0]) (by intro x t hd _; cases hd; exact T24 x) (fun _ => rfl) fun x d w' hd hc => sv (run_mov rfl (E39 x)) hc
    · exact opOk3_quiet (fun x => .slice x.1 L.length x.2) (by intro x t hd _; cases hd; exact T40 x) (fun _ => rfl) fun x d w' hd hc => sv (run_ext rfl (E24 x) rfl) hc
    · exact opOk3_quiet _ (by intro x t hd _; cases hd; exact T41 x) (fun _ => rfl) fun x d w' hd hc => sv (run_ext rfl (E24 x) rfl) hc
    · exact opOk3_quiet _ (by intro x t hd _; cases hd; exact T42 x) (fun _ => rfl) fun x d w' hd hc => sv (run_ext rfl (E24 x) rfl) hc
    · exact opOk3_quiet _ (by intro x t hd _; cases hd; exact T43 x) (fun _ => rfl) fun x d w' hd hc => sv (run_nilP rfl (E25 x)) hc
    · exact opOk3_quiet _ (by intro x t hd _; cases hd; exact T44 x) (fun _ => rfl) fun x d w' hd hc => sv (run_fldT rfl (E43 x) (fun _ => by kernel_rfl)) hc
    · exact opOk3_loud rfl fun x d w' hd hn hc => by
          have n1 : d 14 = true := hd 14 (by kernel_rfl)
          have n2 : d 21 = false := hn 21 (by kernel_rfl)
          rw [n1, n2] at hc
          have hm := hc.m
          refine sk_s (run_storeS rfl (E44 x) (E40 x) (hk5.out w' hm) (hfz.out w' hm)) ⟨x, agree_same _ _, (by intro t hd _; cases hd), ?_⟩
          show ClR L _ w _ (d 14) true _
          rw [n1]
          exact hc.put
    · exact opOk3_quiet _ (by intro x t hd _; cases hd; exact T4 x) (fun _ => rfl) fun x d w' hd hc => sv (run_asg rfl (E41 x)) hc
    · exact opOk3_quiet _ (by intro x t hd _; cases hd; exact T5 x) (fun _ => rfl) fun x d w' hd hc => sv (run_asg rfl (E42 x)) hc
  · intro x d w' hd hc
    simp only [putAll, List.foldl_cons, List.foldl_nil, List.cons_append, List.nil_append, Act.put, List.setIfInBounds_toArray, List.set_cons_succ, List.set_cons_zero]
    rw [hd 14 (by decide), hd 21 (by decide)] at hc
    obtain ⟨W4, hm4, hx, hW5⟩ := hc
    obtain ⟨q, dq⟩ := x
    obtain ⟨hE, hcap, hf⟩ := hx rfl
    dsimp only at hE hcap hf hW5 ⊢
    replace hW5 : w' = W4.setCell ⟨gT, i * 6 + 5, none⟩ (.slice q L.length dq) := hW5
    have hm5 := (Mod.refl (· = gT) W4).setCell (p := ⟨gT, i * 6 + 5, none⟩) (fun _ => rfl) (.slice q L.length dq)
    rw [← hW5] at hm5
    obtain ⟨C, hC⟩ := hH.out.tb
    have hC4 := hC.mod hm4 (fun h => h)
    have hT5 := hset.out C W4 hm4 hC4 q dq
    have hC5 := hC4.set (i * 6 + 5) (.slice q L.length dq)
    rw [← hW5] at hT5 hC5
    have hM5 := (hH.out.map.mod hm4 (fun h => h)).mod hm5 (fun e => hbg.2.2 e.symm)
    obtain ⟨w6, hrun, hM6, hm6⟩ := hM5.update Try.underlying3 Try.underlying3 (t := 74) Try.underlying74 (by unfold maxLen; omega) hq hwf
    rw [← hwm.out] at hM6
    have k2 : w'.cell? ⟨b, 2, none⟩ = some (.map (some gM)) := hm5.cell_of (fun e => hbg.1 e) (hk2.out W4 hm4)
    have hall : Mod (fun k => k = gT ∨ k = gM) w w6 := ((hm4.mono (fun _ _ h => h.elim)).trans (hm5.mono (fun _ _ h => .inl h))).trans (hm6.mono (fun _ _ h => .inr h))
    have hfin := Lib.hid (hH.out.next (N' := N + 1) (i := i) (l := L) (q := q) (d := dq) hall hi (els_modP hT5 hm6 (fun a ha _ e => (by cases ha; exact hbg.2.2 e))) ⟨_, hC5.mod hm6 (fun e => hbg.2.2 e)⟩ hM6
      (els_modP (els_modP hE hm5 (fun a ha h0 e => (by have := hf (fun h => h0 (by rw [h]; rfl)) a ha; have : a.block = gT := e; omega))) hm6 (fun a ha h0 e => (by have := hf (fun h => h0 (by rw [h]; rfl)) a ha; have : a.block = gM := e; omega)))
      hcap (fun h0 a ha => ⟨(hf h0 a ha).1, Nat.lt_of_lt_of_le (hf h0 a ha).2 (Nat.le_trans hm5.size hm6.size)⟩))
    replace hall := Lib.hid hall
    replace hrun := Lib.hid hrun
    clear hE hcap hf hW5 hm5 hC hC4 hT5 hC5 hM5 hM6 hm6 hm4 hx hd hH hset hlv hlq hlt hk1 hk2 hk5 hfz hput hwm
    go_wp2_with (refine wpList_sw rfl rfl (exec_mapUP rfl rfl rfl rfl hrun.out) ?_)
    go_ret2
    exact ⟨rfl, ⟨qT, dT, cT, _, by rw [← hTT.out] at *; exact hfin.out⟩, hall.out⟩
end Go.Proofs.Ytpbmeeogledmdae
