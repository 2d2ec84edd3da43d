/-
  Layer 13, the program's: Take.
-/
import Derived.Test.YtkaoflndbcfodaaGreatPc
namespace Go.Proofs.YtkaoflndbcfodaaGreat
open Go.RowKit

theorem ClR.callN {l : Rou2} {p : Addr} {w W W' : World} {q : Option Addr} {d : Nat} (hm : Mod (fun _ => False) w W) (hb : Below W.heap.size W W') (hE : Els W' q 2 (l.map stV)) (hc : l.length ≤ d ∧ d ≤ 9223372036854775807) (hf : l ≠ [] → ∀ a, q = some a → W.heap.size ≤ a.block) : ClR l p w (q, d) true false W' :=
  ⟨W', hm.after hb, fun _ => ⟨hE, hc, fun h0 a ha => ⟨Nat.le_trans hm.size (hf h0 a ha), els_lt hE (fun e => h0 (List.map_eq_nil_iff.1 e)) ha⟩⟩, rfl⟩
section
variable {ρ : Operand → Value} {o : Oper} {w : World} {x y z u : Operand}
theorem run_callWout {a b : Value} (ho : o.op = .call { callee := .value (.func 35), args := #[x, y], argTypes := #[82, 3] }) (hx : ρ x = a) (hy : ρ y = b)
    (hf : ρ (.func 35) = .func (.func 35) #[] #[] := by rfl) : (execOp ρ o).run Tryz.prog w = .ok (.enter 35 #[a, b]) w := by
  unfold execOp
  simp only [ho]
  go_simp
theorem exec_delP {w' : World} {t k : TypeId} {b : Nat} {i : Int} (ho : o.op = .call { callee := .builtin .delete, args := #[x, y], argTypes := #[t, k] }) (hx : ρ x = .map (some b)) (hy : ρ y = .int .i64 i)
    (h : (Builtin.delete_ #[t, k] o.type #[.map (some b), .int .i64 i]).run Tryz.prog w = .ok (.tuple #[]) w') : (execOp ρ o).run Tryz.prog w = .ok (.value (.tuple #[])) w' := by
  unfold execOp
  simp only [ho, resolve, invoke, builtin, Sem.run_bind, Sem.run_pure, Result.andThen_ok, List.map_toArray, List.map_cons, List.map_nil, hx, hy, h]
theorem run_cellTr {p : Addr} {q : Option Addr} {n c : Nat} (h : w.cell? p = some (.slice q n c)) : (loadVar 85 p).run Tryz.prog w = .ok (.slice q n c) w := by go_simp
end
set_option maxHeartbeats 4000000 in
set_option maxRecDepth 100000 in
theorem ptake_calls {w : World} {F : Nat → Prop} {b gT gM N : Nat} {fl : List Ve} {rows : List Rou2} {t : List Rq} (hP : PlnOk fl rows t) (h : PlanAt w F b gT gM N fl rows t) (req : Int) (hq : wf64 req) :
    Calls Tryz.prog 14 #[.pointer (some ⟨b, 0, none⟩), .int .i64 req] w fun e w' => e = .returned (.int .i64 (ptakP rows req).2) ∧
      PlanAt w' (fun k => F k ∨ (w.heap.size ≤ k ∧ k < w'.heap.size)) b gT gM N fl (ptakP rows req).1 t ∧ Mod (fun k => k = gT ∨ k = gM) w w' := by
  by_cases he : whereP rows req < 0
  · have e1 : ptakP rows req = (rows, 12) := if_pos he
    rw [e1]
    have hnone := whM_none he
    have hh : PlanAt w (fun k => F k ∨ (w.heap.size ≤ k ∧ k < w.heap.size)) b gT gM N fl rows t := by
      obtain ⟨qT, dT, cT, qs, h⟩ := h
      exact ⟨qT, dT, cT, qs, h.box, h.req, h.tb, h.tours, h.map, h.row, h.cap, fun i a ha hr => by have := h.rowB i a ha hr; exact ⟨.inl this.1, this.2⟩, fun a ha hr => by have := h.reqB a ha hr; exact ⟨.inl this.1, this.2⟩, .inl h.fb, .inl h.fT, .inl h.fM,
        h.ne1, h.ne2, h.ne3, fun k hk => by rcases hk with hk | hk; exact h.lt k hk; exact hk.2, h.len, h.lenq, h.many, h.tcap⟩
    obtain ⟨qT, dT, cT, qs, h⟩ := h
    have k2 := h.box.cell (i := 2) rfl
    have hl := h.map.getOk Tryz.underlying3 Tryz.underlying3 (t := 86) Tryz.underlying86 (by kernel_rfl) hq
    rw [hnone] at hl
    replace hl := Lib.hid hl
    replace hh := Lib.hid hh
    clear h hP hq he e1 hnone
    go_enter Tryz.func14, Tryz.ntmps14
    go_wp2_with (refine wpList_v rfl (.tuple #[.int .i64 0, .bool false]) (exec_lookOk rfl rfl rfl hl.out) ?_)
    go_ret
    exact ⟨rfl, hh.out, Mod.refl _ _⟩
  obtain ⟨i, hi0, hw0, hmem⟩ := where_some (by omega : 0 ≤ whereP rows req)
  have hi : i < fl.length := by rw [← hP.len]; exact hi0
  have e1 : ptakP rows req = (rows.set i (woP (rows.getD i []) req), 0) := by
    unfold ptakP
    rw [if_neg he, hw0, Int.toNat_natCast]
  have hkeep := take_keeps hP req
  have hwl := woP_len (rows.getD i []) req
  rw [e1] at hkeep ⊢
  dsimp only at hkeep ⊢
  have hwm := whM_take hP hi hw0 hkeep
  have hsome := whM_some (by omega : 0 ≤ whereP rows req)
  rw [hw0] at hsome
  have hr16 := (hP.right i hi).2.2.1
  obtain ⟨qT, dT, cT, qs, h⟩ := h
  have hput : ∀ wx, Below w.heap.size w wx → Calls Tryz.prog 35 #[.slice (qs.getD i (none, 0)).1 (rows.getD i []).length (qs.getD i (none, 0)).2, .int .i64 req] wx (WoPostN wx (rows.getD i []) req) := fun wx hb =>
    pwithoutN_calls (qs.getD i (none, 0)).1 (qs.getD i (none, 0)).2 (rows.getD i []) req wx ((h.row i).below hb) (by omega)
  unfold WoPostN at hput
  generalize hL : woP (rows.getD i []) req = L at *
  replace hL := Lib.hid hL
  replace hput := Lib.hid hput
  have hl := h.map.getOk Tryz.underlying3 Tryz.underlying3 (t := 86) Tryz.underlying86 (by kernel_rfl) hq
  rw [hsome] at hl
  obtain ⟨w2, hrun, hM2, hm2⟩ := h.map.delete Tryz.underlying3 (t := 86) Tryz.underlying86 hq 0
  rw [← hwm] at hM2
  have k2 := h.box.cell (i := 2) rfl
  have hto := els_modP h.tours hm2 (fun a ha _ e => (by cases ha; exact h.ne3 e))
  have hbx := h.box.mod hm2 (fun e => h.ne2 e)
  have hfl := h.many.1
  have hlen : i < (trs fl rows qs).length := by rw [trs_len]; exact hi
  have hT0 := h.lt gT h.fT
  have hM0 := h.lt gM h.fM
  have hbg : b ≠ gT ∧ b ≠ gM ∧ gT ≠ gM := ⟨h.ne1, h.ne2, h.ne3⟩
  have hrow2 := els_modP (h.row i) hm2 (fun a ha hR e => (h.rowB i a ha (fun e => hR (by rw [e]; rfl))).2.2 e)
  have hput2 : ∀ wx, Mod (fun _ => False) w2 wx → Calls Tryz.prog 35 #[.slice (qs.getD i (none, 0)).1 (rows.getD i []).length (qs.getD i (none, 0)).2, .int .i64 req] wx (fun e w' => Below wx.heap.size wx w' ∧ ∃ q d, e = .returned (.slice q L.length d) ∧ (L.length ≤ d ∧ d ≤ 9223372036854775807) ∧ Els w' q 2 (L.map stV) ∧ (L ≠ [] → ∀ a, q = some a → wx.heap.size ≤ a.block)) := fun wx hm => by
    have := pwithoutN_calls (qs.getD i (none, 0)).1 (qs.getD i (none, 0)).2 (rows.getD i []) req wx (els_modP hrow2 hm (fun _ _ _ h => h)) (by omega)
    unfold WoPostN at this
    rw [hL.out] at this
    exact this
  have hcell := fun wx (hb : Mod (fun _ => False) w2 wx) (j : Nat) (v : Value) (hj : (trV (fl.getD i ve0) (qs.getD i (none, 0)) (rows.getD i []).length)[j]? = some v) => (by
    have := (els_modP hto hb (fun _ _ _ h => h)).cells _ rfl i _ j v (trs_at fl rows qs hi) hj
    rwa [addr0P] at this : wx.cell? ⟨gT, i * 6 + j, none⟩ = some v)
  have htb2 : ∃ C, Blk w2 gT C 84 := by obtain ⟨C, hC⟩ := h.tb; exact ⟨C, hC.mod hm2 (fun e => h.ne3 e)⟩
  have hfz := Lib.hid (fun wx (hb : Mod (fun _ => False) w2 wx) => (by obtain ⟨C, hC⟩ := htb2; exact (hC.mod hb (fun h => h)).froz (i * 6 + 5) : wx.frozen? ⟨gT, i * 6 + 5, none⟩ = false))
  have hk5 := Lib.hid (fun wx (hb : Mod (fun _ => False) w2 wx) => hcell wx hb 5 _ rfl)
  have hlq := Lib.hid (fun wx (hb : Mod (fun _ => False) w2 wx) => run_cellSt (hk5.out wx hb))
  have hk1 := Lib.hid (fun wx (hb : Mod (fun _ => False) w2 wx) => run_cellTr ((hbx.mod hb (fun h => h)).cell (i := 1) rfl))
  have hset := Lib.hid (fun (C : Array Value) (wx : World) (hb : Mod (fun _ => False) w2 wx) (hB : Blk wx gT C 84) q d => (by
    have := els_setP hB (els_modP hto hb (fun _ _ _ h => h)) hlen (J := 5) (by omega) (.slice q L.length d)
    rwa [trs_set fl rows qs hi h.len h.lenq L q d hlen] at this : Els (wx.setCell ⟨gT, i * 6 + 5, none⟩ (.slice q L.length d)) (some ⟨gT, 0, none⟩) 6 (trs fl (rows.set i L) (qs.set i (q, d)))))
  have hH := Lib.hid h
  generalize (rows.getD i []).length = n at *
  generalize (qs.getD i (none, 0)).1 = qi at *
  generalize (qs.getD i (none, 0)).2 = di at *
  replace hwm := Lib.hid hwm
  replace hput2 := Lib.hid hput2
  replace hrun := Lib.hid hrun
  replace hl := Lib.hid hl
  replace hM2 := Lib.hid hM2
  replace htb2 := Lib.hid htb2
  replace hm2 := Lib.hid hm2
  clear h hto hlen hkeep hP he hcell hput hsome hw0 e1 hbx hrow2 hr16 hq hmem hi0
  go_enter Tryz.func14, Tryz.ntmps14
  go_upto_region 7 with (first | (refine wpList_v rfl (.tuple #[.int .i64 (i : Int), .bool true]) (exec_lookOk rfl rfl rfl hl.out) ?_) | (refine wpList_vw rfl _ (exec_delP rfl rfl rfl hrun.out) ?_))
  refine wp_region_rove (X := Option Addr × Nat) (none, 0) (fun x => [(25, .pointer (some ⟨b, 0, none⟩)), (26, .pointer (some ⟨b, 0, none⟩)), (27, .pointer (some ⟨b, 1, none⟩)), (28, .slice (some ⟨gT, 0, none⟩) fl.length cT), (29, .int .i64 (i : Int)), (30, .pointer (some ⟨b, 0, none⟩)), (31, .pointer (some ⟨b, 0, none⟩)), (32, .pointer (some ⟨b, 1, none⟩)), (33, .slice (some ⟨gT, 0, none⟩) fl.length cT), (34, .int .i64 (i : Int)), (35, .pointer (some ⟨gT, i * 6, none⟩)), (36, .pointer (some ⟨gT, i * 6 + 5, none⟩)), (37, .slice qi n di), (38, .int .i64 req), (40, .pointer (some ⟨gT, i * 6, none⟩)), (41, .pointer (some ⟨gT, i * 6 + 5, none⟩))] ++ [(39, .slice x.1 L.length x.2)])
    (fun x d W' => ClR L ⟨gT, i * 6 + 5, none⟩ w2 x (d 14) (d 17) W') (by kernel_rfl) (by kernel_rfl) (by kernel_rfl) (by kernel_rfl) (fun x => by kernel_rfl)
    (ClR.start (Mod.refl _ _).drew) ?_ ?_
  · intro aF hAF
    have E0 : ∀ x, (aF x).eval (.tmp 0) = .pointer (some ⟨b, 0, none⟩) := by intro x; rw [hAF]; kernel_rfl
    have E1 : ∀ x, (aF x).eval (.tmp 1) = .int .i64 req := by intro x; rw [hAF]; kernel_rfl
    have E5 : ∀ x, (aF x).eval (.tmp 5) = .int .i64 (i : Int) := by intro x; rw [hAF]; kernel_rfl
    have T25 : ∀ x, (aF x).tmps[25]? = some (.pointer (some ⟨b, 0, none⟩)) := by intro x; rw [hAF]; kernel_rfl
    have E25 : ∀ x, (aF x).eval (.tmp 25) = .pointer (some ⟨b, 0, none⟩) := by intro x; rw [hAF]; kernel_rfl
    have T26 : ∀ x, (aF x).tmps[26]? = some (.pointer (some ⟨b, 0, none⟩)) := by intro x; rw [hAF]; kernel_rfl
    have E26 : ∀ x, (aF x).eval (.tmp 26) = .pointer (some ⟨b, 0, none⟩) := by intro x; rw [hAF]; kernel_rfl
    have T27 : ∀ x, (aF x).tmps[27]? = some (.pointer (some ⟨b, 1, none⟩)) := by intro x; rw [hAF]; kernel_rfl
    have E27 : ∀ x, (aF x).eval (.tmp 27) = .pointer (some ⟨b, 1, none⟩) := by intro x; rw [hAF]; kernel_rfl
    have T28 : ∀ x, (aF x).tmps[28]? = some (.slice (some ⟨gT, 0, none⟩) fl.length cT) := by intro x; rw [hAF]; kernel_rfl
    have E28 : ∀ x, (aF x).eval (.tmp 28) = .slice (some ⟨gT, 0, none⟩) fl.length cT := by intro x; rw [hAF]; kernel_rfl
    have T29 : ∀ x, (aF x).tmps[29]? = some (.int .i64 (i : Int)) := by intro x; rw [hAF]; kernel_rfl
    have E29 : ∀ x, (aF x).eval (.tmp 29) = .int .i64 (i : Int) := by intro x; rw [hAF]; kernel_rfl
    have T30 : ∀ x, (aF x).tmps[30]? = some (.pointer (some ⟨b, 0, none⟩)) := by intro x; rw [hAF]; kernel_rfl
    have E30 : ∀ x, (aF x).eval (.tmp 30) = .pointer (some ⟨b, 0, none⟩) := by intro x; rw [hAF]; kernel_rfl
    have T31 : ∀ x, (aF x).tmps[31]? = some (.pointer (some ⟨b, 0, none⟩)) := by intro x; rw [hAF]; kernel_rfl
    have E31 : ∀ x, (aF x).eval (.tmp 31) = .pointer (some ⟨b, 0, none⟩) := by intro x; rw [hAF]; kernel_rfl
    have T32 : ∀ x, (aF x).tmps[32]? = some (.pointer (some ⟨b, 1, none⟩)) := by intro x; rw [hAF]; kernel_rfl
    have E32 : ∀ x, (aF x).eval (.tmp 32) = .pointer (some ⟨b, 1, none⟩) := by intro x; rw [hAF]; kernel_rfl
    have T33 : ∀ x, (aF x).tmps[33]? = some (.slice (some ⟨gT, 0, none⟩) fl.length cT) := by intro x; rw [hAF]; kernel_rfl
    have E33 : ∀ x, (aF x).eval (.tmp 33) = .slice (some ⟨gT, 0, none⟩) fl.length cT := by intro x; rw [hAF]; kernel_rfl
    have T34 : ∀ x, (aF x).tmps[34]? = some (.int .i64 (i : Int)) := by intro x; rw [hAF]; kernel_rfl
    have E34 : ∀ x, (aF x).eval (.tmp 34) = .int .i64 (i : Int) := by intro x; rw [hAF]; kernel_rfl
    have T35 : ∀ x, (aF x).tmps[35]? = some (.pointer (some ⟨gT, i * 6, none⟩)) := by intro x; rw [hAF]; kernel_rfl
    have E35 : ∀ x, (aF x).eval (.tmp 35) = .pointer (some ⟨gT, i * 6, none⟩) := by intro x; rw [hAF]; kernel_rfl
    have T36 : ∀ x, (aF x).tmps[36]? = some (.pointer (some ⟨gT, i * 6 + 5, none⟩)) := by intro x; rw [hAF]; kernel_rfl
    have E36 : ∀ x, (aF x).eval (.tmp 36) = .pointer (some ⟨gT, i * 6 + 5, none⟩) := by intro x; rw [hAF]; kernel_rfl
    have T37 : ∀ x, (aF x).tmps[37]? = some (.slice qi n di) := by intro x; rw [hAF]; kernel_rfl
    have E37 : ∀ x, (aF x).eval (.tmp 37) = .slice qi n di := by intro x; rw [hAF]; kernel_rfl
    have T38 : ∀ x, (aF x).tmps[38]? = some (.int .i64 req) := by intro x; rw [hAF]; kernel_rfl
    have E38 : ∀ x, (aF x).eval (.tmp 38) = .int .i64 req := by intro x; rw [hAF]; kernel_rfl
    have T40 : ∀ x, (aF x).tmps[40]? = some (.pointer (some ⟨gT, i * 6, none⟩)) := by intro x; rw [hAF]; kernel_rfl
    have E40 : ∀ x, (aF x).eval (.tmp 40) = .pointer (some ⟨gT, i * 6, none⟩) := by intro x; rw [hAF]; kernel_rfl
    have T41 : ∀ x, (aF x).tmps[41]? = some (.pointer (some ⟨gT, i * 6 + 5, none⟩)) := by intro x; rw [hAF]; kernel_rfl
    have E41 : ∀ x, (aF x).eval (.tmp 41) = .pointer (some ⟨gT, i * 6 + 5, none⟩) := by intro x; rw [hAF]; kernel_rfl
    have T39 : ∀ x, (aF x).tmps[39]? = some (.slice x.1 L.length x.2) := by intro x; rw [hAF]; kernel_rfl
    have E39 : ∀ x, (aF x).eval (.tmp 39) = .slice x.1 L.length x.2 := by intro x; rw [hAF]; kernel_rfl
    replace hAF := Lib.hid hAF
    refine ⟨?_, ?_, ?_, ?_, ?_, ?_, ?_, ?_, ?_, ?_, ?_, ?_, ?_, ?_, ?_, ?_, ?_, ?_, trivial⟩
    · exact opOk3_quiet _ (by intro x t hd _; cases hd; exact T25 x) (fun _ => rfl) fun x d w' hd hc => sv (run_mov rfl (E0 x)) hc
    · exact opOk3_quiet _ (by intro x t hd _; cases hd; exact T26 x) (fun _ => rfl) fun x d w' hd hc => sv (run_nilP rfl (E25 x)) hc
    · exact opOk3_quiet _ (by intro x t hd _; cases hd; exact T27 x) (fun _ => rfl) fun x d w' hd hc => sv (run_fldT rfl (E26 x) (fun _ => by kernel_rfl)) hc
    · exact opOk3_quietL _ (by intro x t hd _; cases hd; exact T28 x) (fun _ => rfl) fun x d w' hd hn hc => sv (run_load1 rfl (E27 x) (hk1.out _ (ClR.m (by have n := hn 17 (by kernel_rfl); rw [n] at hc; exact hc)))) hc
    · exact opOk3_quiet _ (by intro x t hd _; cases hd; exact T29 x) (fun _ => rfl) fun x d w' hd hc => sv (run_mov rfl (E5 x)) hc
    · exact opOk3_quiet _ (by intro x t hd _; cases hd; exact T30 x) (fun _ => rfl) fun x d w' hd hc => sv (run_mov rfl (E0 x)) hc
    · exact opOk3_quiet _ (by intro x t hd _; cases hd; exact T31 x) (fun _ => rfl) fun x d w' hd hc => sv (run_nilP rfl (E30 x)) hc
    · exact opOk3_quiet _ (by intro x t hd _; cases hd; exact T32 x) (fun _ => rfl) fun x d w' hd hc => sv (run_fldT rfl (E31 x) (fun _ => by kernel_rfl)) hc
    · exact opOk3_quietL _ (by intro x t hd _; cases hd; exact T33 x) (fun _ => rfl) fun x d w' hd hn hc => sv (run_load1 rfl (E32 x) (hk1.out _ (ClR.m (by have n := hn 17 (by kernel_rfl); rw [n] at hc; exact hc)))) hc
    · exact opOk3_quiet _ (by intro x t hd _; cases hd; exact T34 x) (fun _ => rfl) fun x d w' hd hc => sv (run_mov rfl (E5 x)) hc
    · exact opOk3_quiet _ (by intro x t hd _; cases hd; exact T35 x) (fun _ => rfl) fun x d w' hd hc => sv (run_ixTr0 rfl (E33 x) (E34 x) hi) hc
    · exact opOk3_quiet _ (by intro x t hd _; cases hd; exact T36 x) (fun _ => rfl) fun x d w' hd hc => sv (run_fldT rfl (E35 x) (fun _ => by kernel_rfl)) hc
    · exact opOk3_quietL _ (by intro x t hd _; cases hd; exact T37 x) (fun _ => rfl) fun x d w' hd hn hc => sv (run_load1 rfl (E36 x) (hlq.out _ (ClR.m (by have n := hn 17 (by kernel_rfl); rw [n] at hc; exact hc)))) hc
    · exact opOk3_quiet _ (by intro x t hd _; cases hd; exact T38 x) (fun _ => rfl) fun x d w' hd hc => sv (run_mov rfl (E1 x)) hc
    · exact opOk3_loud rfl fun x d w' hd hn hc => by
          have n2 : d 17 = false := hn 17 (by kernel_rfl)
          rw [n2] at hc
          have hm := hc.m
          refine sk (run_callWout rfl (E37 x) (E38 x)) ((hput2.out w' hm).mono ?_)
          rintro e w'' ⟨hb, q, dd, rfl, h2, h3, h4⟩
          refine ⟨_, rfl, (q, dd), (by rw [hAF.out]; exact agree_any (by kernel_rfl) (by kernel_rfl)), (by intro t hd _; cases hd; exact T39 _), ?_⟩
          show ClR L _ w2 _ true (d 17) _
          rw [n2]
          exact ClR.callN hm hb h3 h2 h4
    · exact opOk3_quiet _ (by intro x t hd _; cases hd; exact T40 x) (fun _ => rfl) fun x d w' hd hc => sv (run_ixTr0 rfl (E28 x) (E29 x) hi) hc
    · exact opOk3_quiet _ (by intro x t hd _; cases hd; exact T41 x) (fun _ => rfl) fun x d w' hd hc => sv (run_fldT rfl (E40 x) (fun _ => by kernel_rfl)) hc
    · exact opOk3_loud rfl fun x d w' hd hn hc => by
          have n1 : d 14 = true := hd 14 (by kernel_rfl)
          have n2 : d 17 = false := hn 17 (by kernel_rfl)
          rw [n1, n2] at hc
          have hm := hc.m
          refine sk_s (run_storeS rfl (E41 x) (E39 x) (hk5.out w' hm) (hfz.out w' hm)) ⟨x, agree_same _ _, (by intro t hd _; cases hd), ?_⟩
          show ClR L _ w2 _ (d 14) true _
          rw [n1]
          exact hc.put
  · intro x d w' hd hc
    simp only [putAll, List.foldl_cons, List.foldl_nil, List.cons_append, List.nil_append, Act.put, List.setIfInBounds_toArray, List.set_cons_succ, List.set_cons_zero]
    rw [hd 14 (by decide), hd 17 (by decide)] at hc
    obtain ⟨W4, hm4, hx, hW5⟩ := hc
    obtain ⟨q, dq⟩ := x
    obtain ⟨hE, hcap, hf⟩ := hx rfl
    dsimp only at hE hcap hf hW5 ⊢
    replace hW5 : w' = W4.setCell ⟨gT, i * 6 + 5, none⟩ (.slice q L.length dq) := hW5
    have hm5 := (Mod.refl (· = gT) W4).setCell (p := ⟨gT, i * 6 + 5, none⟩) (fun _ => rfl) (.slice q L.length dq)
    rw [← hW5] at hm5
    obtain ⟨C, hC⟩ := htb2.out
    have hC4 := hC.mod hm4 (fun h => h)
    have hT5 := hset.out C W4 hm4 hC4 q dq
    have hC5 := hC4.set (i * 6 + 5) (.slice q L.length dq)
    rw [← hW5] at hT5 hC5
    have hM5 := (hM2.out.mod hm4 (fun h => h)).mod hm5 (fun e => hbg.2.2 e.symm)
    have h2s := hm2.out.size
    have hall : Mod (fun k => k = gT ∨ k = gM) w w' := ((hm2.out.mono (fun _ _ h => .inr h)).trans (hm4.mono (fun _ _ h => h.elim))).trans (hm5.mono (fun _ _ h => .inl h))
    have hfin := Lib.hid (hH.out.next (N' := N) (i := i) (l := L) (q := q) (d := dq) hall hi hT5 ⟨_, hC5⟩ (by rw [hwm.out] at hM5 ⊢; exact hM5)
      (els_modP hE hm5 (fun a ha h0 e => (by have := hf (fun h => h0 (by rw [h]; rfl)) a ha; have : a.block = gT := e; omega)))
      hcap (fun h0 a ha => ⟨Nat.le_trans h2s (hf h0 a ha).1, Nat.lt_of_lt_of_le (hf h0 a ha).2 hm5.size⟩))
    replace hall := Lib.hid hall
    clear hE hcap hf hW5 hm5 hC hC4 hT5 hC5 hM5 hm4 hx hd hH hset hlq hk1 hk5 hfz hput2 hwm hM2 hm2 htb2 k2
    go_wp2_with fail
    go_ret
    exact ⟨rfl, ⟨qT, dT, cT, _, hfin.out⟩, hall.out⟩
end Go.Proofs.YtkaoflndbcfodaaGreat
