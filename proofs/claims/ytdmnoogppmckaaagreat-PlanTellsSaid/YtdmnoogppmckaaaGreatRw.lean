/-
  Layer 13: the document's plan: Where, All, Total.
-/
import Derived.Test.YtdmnoogppmckaaaGreatRl
namespace Go.Proofs.YtdmnoogppmckaaaGreat
open Go.RowKit

theorem where_is {rows : List Rou2} {req : Int} {i : Nat} (hi : i < rows.length) (hb : ∀ j, j < i → ∀ s ∈ rows.getD j [], s.1 ≠ req) {s : Int × Int} (hs : s ∈ rows.getD i []) (e : s.1 = req) : whereP rows req = i := by
  have h : rows.findIdx? (fun l => l.any (fun s => s.1 == req)) = some i := by
    rw [List.findIdx?_eq_some_iff_getElem]
    refine ⟨hi, ?_, fun j hj => ?_⟩
    · rw [List.getD_eq_getElem?_getD, List.getElem?_eq_getElem hi] at hs
      exact List.any_eq_true.2 ⟨s, hs, by simpa using e⟩
    · intro hh
      obtain ⟨s', hs', e'⟩ := List.any_eq_true.1 hh
      refine hb j hj s' ?_ (by simpa using e')
      rw [List.getD_eq_getElem?_getD, List.getElem?_eq_getElem (by omega)]
      exact hs'
  unfold whereP fstI
  rw [h]
theorem where_not {rows : List Rou2} {req : Int} (hb : ∀ j, j < rows.length → ∀ s ∈ rows.getD j [], s.1 ≠ req) : whereP rows req = -1 := by
  have h : rows.findIdx? (fun l => l.any (fun s => s.1 == req)) = none := by
    rw [List.findIdx?_eq_none_iff]
    intro l hl
    obtain ⟨j, hj, rfl⟩ := List.mem_iff_getElem.1 hl
    rw [List.any_eq_false]
    intro s hs e
    refine hb j hj s ?_ (by simpa using e)
    rw [List.getD_eq_getElem?_getD, List.getElem?_eq_getElem hj]
    exact hs
  unfold whereP fstI
  rw [h]
theorem rs_cellR {w : World} {a : Addr} {rows : List Rou2} {qs : List (Option Addr × Nat)} (h : Els w (some a) 1 (rsV rows qs rows.length)) {i : Nat} (hi : i < rows.length) : w.cell? (a.add i) = some (.slice (qs.getD i (none, 0)).1 (rows.getD i []).length (qs.getD i (none, 0)).2) := by
  have := h.cells a rfl i [.slice (qs.getD i (none, 0)).1 (rows.getD i []).length (qs.getD i (none, 0)).2] 0 _ (by simp [rsV, hi]) rfl
  simpa using this
theorem run_i64R {w : World} {p : Addr} {n : Int} (hc : w.cell? p = some (.int .i64 n)) : (loadVar 3 p).run Tryz.prog w = .ok (.int .i64 n) w := by go_simp
theorem run_cellStR {w : World} {p : Addr} {q : Option Addr} {n c : Nat} (h : w.cell? p = some (.slice q n c)) : (loadVar 47 p).run Tryz.prog w = .ok (.slice q n c) w := by go_simp
theorem run_cellVR {w : World} {p : Addr} {q : Option Addr} {n c : Nat} (h : w.cell? p = some (.slice q n c)) : (loadVar 22 p).run Tryz.prog w = .ok (.slice q n c) w := by go_simp
theorem run_cellRR {w : World} {p : Addr} {q : Option Addr} {n c : Nat} (h : w.cell? p = some (.slice q n c)) : (loadVar 45 p).run Tryz.prog w = .ok (.slice q n c) w := by go_simp
set_option maxHeartbeats 4000000 in
set_option maxRecDepth 100000 in
theorem rwhere_calls {w : World} {F : Nat → Prop} {b gR : Nat} {fl : List Ve} {rows : List Rou2} {t : List Rq} (h : RplAt w F b gR fl rows t) (hn : fl.length ≤ 4) (hr : ∀ i, (rows.getD i []).length ≤ 1000) (req : Int) :
    Calls Tryz.prog 37 #[.pointer (some ⟨b, 0, none⟩), .int .i64 req] w fun e w' => e = .returned (.int .i64 (whereP rows req)) ∧ w = w' := by
  obtain ⟨qF, dF, qT, dT, qs, h⟩ := h
  have hbox := h.box
  have hrw := h.rws
  obtain ⟨aR, haR⟩ : ∃ aR : Addr, (⟨gR, 0, none⟩ : Addr) = aR := ⟨_, rfl⟩
  rw [haR] at hbox hrw
  have k2 := hbox.cell (i := 2) rfl
  have hrow := Lib.hid h.row
  have hlen := h.len
  have hwi := fun i (hi : i < rows.length) hb (s : Int × Int) hs e => where_is (rows := rows) (req := req) (i := i) hi hb (s := s) hs e
  have hwn := fun hb => where_not (rows := rows) (req := req) hb
  generalize whereP rows req = X at *
  replace hwi := Lib.hid hwi
  replace hwn := Lib.hid hwn
  replace hrw := Lib.hid hrw
  replace hr := Lib.hid hr
  obtain ⟨n, hnn⟩ : ∃ n, fl.length = n := ⟨_, rfl⟩
  rw [hnn] at k2 hlen hn
  replace hlen := Lib.hid hlen
  clear h haR hbox hnn
  go_enter Tryz.func37, Tryz.ntmps37
  go_wp2_with fail
  go_loopw [5] (fun s5 wx => ∃ i : Nat, i ≤ n ∧ s5 = .int .i64 i ∧ Hid (∀ j, j < i → ∀ s ∈ rows.getD j [], s.1 ≠ req) ∧ wx = w) (fun s5 _ => n - (intOf s5).toNat)
  case atStart => exact ⟨0, Nat.zero_le _, rfl, Lib.hid (fun j hj => by omega), rfl⟩
  case round =>
    obtain ⟨i, hi, rfl, hno, rfl⟩ := hrel
    by_cases hlt : i < n
    · have hltI : (i : Int) < (n : Int) := by omega
      have hi0 : (0 : Int) ≤ (i : Int) := by omega
      have s1 : IntKind.i64.wrap ((i : Int) + 1) = (i : Int) + 1 := IntWalk.i64_in _ (by omega)
      have hir : i < rows.length := by rw [hlen.out]; exact hlt
      have hcw := run_cellStR (rs_cellR hrw.out hir)
      have hel := hrow.out i
      have hl1 := hr.out i
      obtain ⟨l, hll⟩ : ∃ l, rows.getD i [] = l := ⟨_, rfl⟩
      have hfo := Lib.hid (fun (s : Int × Int) (hs : s ∈ l) e => hwi.out i hir hno.out s (by rw [hll]; exact hs) e)
      have hnx := Lib.hid (fun (h : ∀ s ∈ l, s.1 ≠ req) => (show ∀ j, j < i + 1 → ∀ s ∈ rows.getD j [], s.1 ≠ req from fun j hj s hs => by
        by_cases e : j = i
        · subst e; rw [hll] at hs; exact h s hs
        · exact hno.out j (by omega) s hs))
      rw [hll] at hcw hel hl1
      generalize (qs.getD i (none, 0)).1 = qi at *
      generalize (qs.getD i (none, 0)).2 = di at *
      obtain ⟨ln, hln⟩ : ∃ ln, l.length = ln := ⟨_, rfl⟩
      rw [hln] at hcw hl1
      replace hln := Lib.hid hln
      replace hcw := Lib.hid hcw
      replace hel := Lib.hid hel
      clear hll hno
      go_wp2_with fail
      go_loopw [6] (fun s6 wx => ∃ k : Nat, k ≤ ln ∧ s6 = .int .i64 k ∧ Hid (∀ s ∈ l.take k, s.1 ≠ req) ∧ wx = wr) (fun s6 _ => ln - (intOf s6).toNat)
      case atStart => exact ⟨0, Nat.zero_le _, rfl, Lib.hid (fun s hs => by simp at hs), rfl⟩
      case round =>
        obtain ⟨k, hk, rfl, hno, rfl⟩ := hrel
        by_cases hlk : k < ln
        · have hlkI : (k : Int) < (ln : Int) := by omega
          have hk0 : (0 : Int) ≤ (k : Int) := by omega
          have s3 : IntKind.i64.wrap ((k : Int) + 1) = (k : Int) + 1 := IntWalk.i64_in _ (by omega)
          have hkl : k < l.length := by rw [hln.out]; exact hlk
          obtain ⟨aL, e⟩ := hel.out.some_of (k := k) (by simpa using hkl)
          subst e
          have c0 := hel.out.cells aL rfl k (stV l[k]) 0 (.int .i64 l[k].1) (by rw [List.getElem?_map, List.getElem?_eq_getElem hkl]; rfl) rfl
          rw [Nat.add_zero] at c0
          have hme := hfo.out l[k] (List.getElem_mem hkl)
          have htk : Hid (l[k].1 ≠ req → ∀ s ∈ l.take (k + 1), s.1 ≠ req) := Lib.hid (fun h s hs => by
            rw [List.take_succ_eq_append_getElem hkl, List.mem_append] at hs
            rcases hs with hs | hs
            · exact hno.out s hs
            · rw [List.mem_singleton] at hs
              rw [hs]; exact h)
          generalize l[k].1 = u at c0 hme htk
          replace c0 := Lib.hid (run_i64R c0)
          clear hkl hno
          by_cases hu : u = req
          · subst hu
            have hX := hme rfl
            subst hX
            clear hme htk
            go_wp2_with (first | (refine wpList_load_v rfl 47 _ rfl (aR.add i) rfl _ hcw.out ?_) | (refine wpList_load_v rfl 3 _ rfl (aL.add (k * 2)) rfl _ c0.out ?_))
            go_ret
            exact ⟨rfl, rfl⟩
          · have hno2 := Lib.hid (htk.out hu)
            clear hme htk
            go_wp2_with (first | (refine wpList_load_v rfl 47 _ rfl (aR.add i) rfl _ hcw.out ?_) | (refine wpList_load_v rfl 3 _ rfl (aL.add (k * 2)) rfl _ c0.out ?_))
            go_roundw
            case rel => exact ⟨k + 1, by omega, by simp, hno2, trivial⟩
            case measure => simp [intOf]; omega
        · obtain rfl : k = ln := by omega
          have hno2 := Lib.hid (hnx.out (fun s hs => hno.out s (by rw [List.take_of_length_le (by rw [hln.out]; omega)]; exact hs)))
          clear hno
          go_wp2_with (refine wpList_load_v rfl 47 _ rfl (aR.add i) rfl _ hcw.out ?_)
          go_roundw
          case rel => exact ⟨i + 1, by omega, by simp, hno2, trivial⟩
          case measure => simp [intOf]; omega
    · obtain rfl : i = n := by omega
      have hX := hwn.out (fun j hj => hno.out j (by rw [← hlen.out]; exact hj))
      subst hX
      go_wp2_with fail
      go_ret
      exact ⟨rfl, rfl⟩
/-- the requests met so far -/
def alR (rows : List Rou2) (m : Nat) : List Int := ((List.range m).map (fun i : Nat => (i : Int))).filter fun r => decide (0 ≤ whereP rows r)
theorem alR_succ (rows : List Rou2) (m : Nat) : alR rows (m + 1) = alR rows m ++ (if 0 ≤ whereP rows (m : Int) then [(m : Int)] else []) := by
  unfold alR
  rw [List.range_succ, List.map_append, List.filter_append]
  congr 1
  by_cases h : 0 ≤ whereP rows (m : Int) <;> simp [h]
theorem alR_all (rows : List Rou2) (t : List Rq) : alR rows t.length = allQ rows t := rfl
theorem alR_len (rows : List Rou2) (m : Nat) : (alR rows m).length ≤ m := by
  unfold alR
  refine Nat.le_trans (List.length_filter_le _ _) ?_
  simp
theorem in_elR : ElT Tryz.prog 55 3 1 8 := ⟨Tryz.underlying55, by kernel_rfl, by kernel_rfl, by kernel_rfl, by omega, by omega⟩
theorem rsl_inR (r : Int) (w : World) : (Instr.buildSlice 55 1 #[(0, .int .i64 r)]).run Tryz.prog w = .ok (.slice (some ⟨w.heap.size, 0, none⟩) 1 1) (w.alloc (.cells (inV r).toArray 3)) := by kernel_rfl
set_option maxHeartbeats 4000000 in
set_option maxRecDepth 100000 in
theorem rall_calls {w : World} {F : Nat → Prop} {b gR : Nat} {fl : List Ve} {rows : List Rou2} {t : List Rq} (h : RplAt w F b gR fl rows t) (hn : fl.length ≤ 4) (hr : ∀ i, (rows.getD i []).length ≤ 1000) (ht : t.length ≤ 1000) :
    Calls Tryz.prog 35 #[.pointer (some ⟨b, 0, none⟩)] w (AqPost w (allQ rows t)) := by
  have hwh := Lib.hid (fun wx (hb : Below w.heap.size w wx) (m : Int) => rwhere_calls (h.below hb) hn hr m)
  obtain ⟨qF, dF, qT, dT, qs, h⟩ := h
  have hk1 := Lib.hid (fun wx (hb : Below w.heap.size w wx) => (h.box.mod ((Mod.refl (fun _ => False) w).after hb) (fun h => h)).cell (i := 1) rfl)
  have hQ := alR_all rows t
  obtain ⟨Q, hQQ⟩ : ∃ Q, allQ rows t = Q := ⟨_, rfl⟩
  rw [hQQ] at hQ ⊢
  obtain ⟨T, hTT⟩ : ∃ T, t.length = T := ⟨_, rfl⟩
  rw [hTT] at hQ hk1 ht
  replace hQ := Lib.hid hQ
  clear h hQQ hTT
  go_enter Tryz.func35, Tryz.ntmps35
  go_wp2_with fail
  go_loopw [3, 4] (fun s3 s4 wx => ∃ m : Nat, m ≤ T ∧ s4 = .int .i64 m ∧ wx.ownsRow w.heap.size 3 1 s3 (alR rows m).length ((alR rows m).map inV).flatten ∧ Below w.heap.size w wx) (fun _ s4 _ => T - (intOf s4).toNat)
  case atStart => exact ⟨0, Nat.zero_le _, rfl, World.ownsRow_nil _ _ _ _, Below.refl _ _⟩
  case round =>
    obtain ⟨m, hm, rfl, hO, hb⟩ := hrel
    obtain ⟨q9, m9, d9, rfl⟩ := own_isS hO
    have k1 := hk1.out _ hb
    by_cases hlt : m < T
    · have hltI : (m : Int) < (T : Int) := by omega
      have hm0 : (0 : Int) ≤ (m : Int) := by omega
      have s1 : IntKind.i64.wrap ((m : Int) + 1) = (m : Int) + 1 := IntWalk.i64_in _ (by omega)
      have hal := Lib.hid (alR_succ rows m)
      have hak := Lib.hid (alR_len rows m)
      have hw := hwh.out wr hb (m : Int)
      replace hO := Lib.hid hO
      replace hb := Lib.hid hb
      obtain ⟨X, hX⟩ : ∃ X, whereP rows (m : Int) = X := ⟨_, rfl⟩
      rw [hX] at hw hal
      clear hX
      go_wp2_with fail
      refine hw.mono ?_
      clear hw
      rintro e w5 ⟨rfl, rfl⟩
      by_cases hw0 : 0 ≤ X
      · have hal2 := Lib.hid (show alR rows (m + 1) = alR rows m ++ [(m : Int)] by rw [hal.out, if_pos hw0])
        have hOA := Lib.hid (own_mod hO.out ((Mod.refl (fun _ => False) wr).alloc (.cells (inV (m : Int)).toArray 3)) (fun _ _ h => h))
        have hlow := Lib.hid (hb.out.alloc hb.out.size (.cells (inV (m : Int)).toArray 3))
        have hzA := Lib.hid hlow.out.size
        have hal3 : (alR rows m).length ≤ 100000 := by have := hak.out; omega
        clear hO hb hal k1
        go_wp2_with (first | (refine wpList_bs1 rfl 55 1 0 _ rfl (.int .i64 (m : Int)) rfl _ _ (rsl_inR _ _) ?_) |
          (refine wpList_appG in_elR rfl _ _ rfl w.heap.size hzA.out _ (alR rows m).length _ rfl hOA.out hal3 ⟨wr.heap.size, 0, none⟩ 1 1 (inV (m : Int)) rfl rfl (by omega) (row_cells (Blk.new wr _ _)) (in_one _) ?_; intro v7 w7 hO7 hg7))
        have hb7 := Lib.hid (grown_low hlow.out (Nat.le_refl _) (Nat.le_refl _) hOA.out hg7)
        replace hO7 := Lib.hid hO7
        clear hg7 hOA hzA hlow
        go_roundw
        case rel => exact ⟨m + 1, by omega, by simp, by rw [hal2.out]; simpa using hO7.out, hb7.out⟩
        case measure => simp [intOf]; omega
      · have hal2 := Lib.hid (show alR rows (m + 1) = alR rows m by rw [hal.out, if_neg hw0, List.append_nil])
        clear hal k1
        go_wp2_with fail
        go_roundw
        case rel => exact ⟨m + 1, by omega, by simp, by rw [hal2.out]; exact hO.out, hb.out⟩
        case measure => simp [intOf]; omega
    · obtain rfl : m = T := by omega
      have hQ2 := hQ.out
      have hql := alR_len rows m
      rw [hQ2] at hO hql
      obtain rfl := own_lenC hO
      have hG := Lib.hid (fun (h0 : Q ≠ []) => (by obtain ⟨g, C, e1, e2, e3, _⟩ := ownS_blk hO (List.length_pos_iff.2 h0); exact ⟨g, C, e1, e3, e2⟩ : ∃ g C, q9 = some ⟨g, 0, none⟩ ∧ w.heap.size ≤ g ∧ Blk wr g C 3))
      obtain ⟨h1, _, h3, _⟩ := own_els (R := Q.map inV) (inV_len _) (by rw [List.length_map]; exact hO) (by rw [List.length_map]; omega)
      replace h1 := Lib.hid h1
      replace hb := Lib.hid hb
      clear hO hQ2 hQ
      go_wp2_with fail
      go_ret
      exact ⟨⟨q9, d9, rfl, h3, h1.out, hG.out⟩, hb.out⟩
theorem run_callT7 {ρ : Operand → Value} {o : Oper} {w : World} {x y z : Operand} {a b c : Value} (ho : o.op = .call { callee := .value (.func 66), args := #[x, y, z], argTypes := #[53, 47, 23] }) (hx : ρ x = a) (hy : ρ y = b) (hz : ρ z = c)
    (hf : ρ (.func 66) = .func (.func 66) #[] #[] := by rfl) : (execOp ρ o).run Tryz.prog w = .ok (.enter 66 #[a, b, c]) w := by
  unfold execOp
  simp only [ho]
  go_simp
theorem run_ixVeR {ρ : Operand → Value} {o : Oper} {w : World} {x y : Operand} {a : Addr} {n c k : Nat} (ho : o.op = .indexAddr 22 x y) (hx : ρ x = .slice (some a) n c) (hy : ρ y = .int .i64 k) (hk : k < n) : (execOp ρ o).run Tryz.prog w = .ok (.value (.pointer (some (a.add (k * 5))))) w := by
  have h0 : (0 : Int) ≤ (k : Int) := by omega
  have h1 : (k : Int) < (n : Int) := by omega
  have h2 : ((k : Int)).toNat = k := by omega
  unfold execOp
  simp only [ho, hx, hy]
  go_simp
theorem addr_3R (b : Addr) : b.add 3 = ⟨b.block, b.off + 3, none⟩ := by unfold Addr.add; simp
set_option maxHeartbeats 4000000 in
set_option maxRecDepth 100000 in
theorem rtotal_calls {w : World} {F : Nat → Prop} {b gR : Nat} {fl : List Ve} {rows : List Rou2} {t : List Rq} (hP : PlnOk fl rows t) (h : RplAt w F b gR fl rows t) :
    Calls Tryz.prog 36 #[.pointer (some ⟨b, 0, none⟩)] w fun e w' => e = .returned (.int .i64 (totP fl rows t)) ∧ Below w.heap.size w w' := by
  obtain ⟨qF, dF, qT, dT, qs, h⟩ := h
  have hfl := hP.many
  have hbox := h.box
  have hrw := h.rws
  obtain ⟨aR, haR⟩ : ∃ aR : Addr, (⟨gR, 0, none⟩ : Addr) = aR := ⟨_, rfl⟩
  rw [haR] at hbox hrw
  obtain ⟨aV, eV⟩ := h.fleet.some_of (k := 0) (by rw [List.length_map]; omega)
  have hfe := h.fleet
  rw [eV] at hbox hfe
  have hk := Lib.hid (fun wx (hm : Mod (fun _ => False) w wx) (i : Nat) (v : Value) (hv : (#[.slice (some aV) fl.length dF, .slice qT t.length dT, .slice (some aR) fl.length fl.length] : Array Value)[i]? = some v) => (hbox.mod hm (fun h => h)).cell (i := i) hv)
  have htm := Lib.hid (fun wx (hm : Mod (fun _ => False) w wx) (i : Nat) => (show Calls Tryz.prog 66 #[.agg (veR (fl.getD i ve0)).toArray, .slice (qs.getD i (none, 0)).1 (rows.getD i []).length (qs.getD i (none, 0)).2, .slice qT t.length dT] wx (TmPost wx (timV (fl.getD i ve0) (rows.getD i []) t)) from
    times7_ref _ _ _ _ _ _ _ _ _ (rows.getD i []) t wx (els_modP (h.row i) hm (fun _ _ _ h => h)) (h.cap i) (els_modP h.req hm (fun _ _ _ h => h))))
  have hlv := Lib.hid (fun wx (hm : Mod (fun _ => False) w wx) (i : Nat) (hi : i < fl.length) => (show (loadVar 53 (aV.add (i * 5))).run Tryz.prog wx = .ok (.agg (veR (fl.getD i ve0)).toArray) wx from by
    have := (els_modP hfe hm (fun _ _ _ h => h)).load (P := Tryz.prog) (a := aV) rfl (k := i) (by simpa using hi) (ty := 53) Tryz.underlying53 rfl (by kernel_rfl)
    rw [List.getElem_map] at this
    rw [List.getD_eq_getElem?_getD, List.getElem?_eq_getElem hi]
    exact this))
  have hv3 := Lib.hid (fun wx (hm : Mod (fun _ => False) w wx) (i : Nat) (hi : i < fl.length) => (show wx.cell? (aV.add (i * 5 + 3)) = some (.int .i64 (fl.getD i ve0 3)) from (els_modP hfe hm (fun _ _ _ h => h)).cells aV rfl i (veR (fl.getD i ve0)) 3 _ (by rw [List.getElem?_map, List.getElem?_eq_getElem hi, List.getD_eq_getElem?_getD, List.getElem?_eq_getElem hi]; rfl) rfl))
  have hcr := Lib.hid (fun wx (hm : Mod (fun _ => False) w wx) (i : Nat) (hi : i < rows.length) => run_cellStR (rs_cellR (els_modP hrw hm (fun _ _ _ h => h)) hi))
  have hlen := h.len
  have hstp := Lib.hid (fun k (hk : k < fl.length) => (⟨totV_bd (hP.right k hk), totK_bd hP k (by omega)⟩ : (_ ∧ _)))
  obtain ⟨tot, htot0, htotS, htotE⟩ : ∃ tot : Nat → Int, tot 0 = 0 ∧ (∀ k, tot (k + 1) = tot k + totV (fl.getD k ve0) (rows.getD k []) t ∧ tot k = totK fl rows t k) ∧ totP fl rows t = tot fl.length := ⟨totK fl rows t, rfl, fun _ => ⟨rfl, rfl⟩, rfl⟩
  rw [htotE]
  replace htotS := Lib.hid htotS
  replace htot0 := Lib.hid htot0
  obtain ⟨n, hn⟩ : ∃ n, fl.length = n := ⟨_, rfl⟩
  obtain ⟨T, hT⟩ : ∃ T, t.length = T := ⟨_, rfl⟩
  rw [hn] at hk hlen hfl hstp hlv hv3 ⊢
  rw [hT] at hk htm
  rw [hlen] at hcr
  clear h haR eV hbox hrw hfe hn hT hlen htotE hP
  go_enter Tryz.func36, Tryz.ntmps36
  go_wp2_with fail
  go_loopw [3, 4] (fun s3 s4 wx => ∃ k : Nat, k ≤ n ∧ s4 = .int .i64 k ∧ s3 = .int .i64 (tot k) ∧ Mod (fun _ => False) w wx) (fun _ s4 _ => n - (intOf s4).toNat)
  case atStart => exact ⟨0, Nat.zero_le _, rfl, by rw [htot0.out], Mod.refl _ _⟩
  case round =>
    obtain ⟨i, hi, rfl, rfl, hm⟩ := hrel
    have k0 := hk.out wr hm 0 _ rfl
    by_cases hlt : i < n
    · have hltI : (i : Int) < (n : Int) := by omega
      have hi0 : (0 : Int) ≤ (i : Int) := by omega
      have s1 : IntKind.i64.wrap ((i : Int) + 1) = (i : Int) + 1 := IntWalk.i64_in _ (by omega)
      have hB0 := Lib.hid (fun wx (h : Mod (fun _ => False) wr wx) => run_cellVR (hk.out wx (hm.trans h) 0 _ rfl))
      have hB1 := Lib.hid (fun wx (h : Mod (fun _ => False) wr wx) => run_cellRq (hk.out wx (hm.trans h) 1 _ rfl))
      have hB2 := Lib.hid (fun wx (h : Mod (fun _ => False) wr wx) => run_cellRR (hk.out wx (hm.trans h) 2 _ rfl))
      have hTi := Lib.hid (fun wx (h : Mod (fun _ => False) wr wx) => htm.out wx (hm.trans h) i)
      have hVi := Lib.hid (fun wx (h : Mod (fun _ => False) wr wx) => hlv.out wx (hm.trans h) i hlt)
      have hRi := Lib.hid (fun wx (h : Mod (fun _ => False) wr wx) => hcr.out wx (hm.trans h) i hlt)
      have h3i := Lib.hid (fun wx (h : Mod (fun _ => False) wr wx) => hv3.out wx (hm.trans h) i hlt)
      have hk0 := Lib.hid (fun wx (h : Mod (fun _ => False) wr wx) => hk.out wx (hm.trans h) 0 _ rfl)
      obtain ⟨⟨p1, p2, p3, p4⟩, p5⟩ := hstp.out i hlt
      obtain ⟨f1, f2⟩ := htotS.out i
      rw [← f2] at p5
      unfold totV at p1 p2 f1
      obtain ⟨L, en, e0, hBe⟩ : ∃ L en e0, timV (fl.getD i ve0) (rows.getD i []) t = (L, en, e0) := ⟨_, _, _, rfl⟩
      rw [hBe] at hTi p1 p2 p4 f1
      dsimp only at p1 p2 p4 f1
      unfold TmPost at hTi
      dsimp only at hTi
      obtain rfl : e0 = 0 := p4
      generalize (veR (fl.getD i ve0)).toArray = Y at hVi hTi
      generalize fl.getD i ve0 3 = v3 at *
      generalize (qs.getD i (none, 0)).1 = qi at *
      generalize (qs.getD i (none, 0)).2 = di at *
      generalize (rows.getD i []).length = ln at *
      have s2 : IntKind.i64.wrap (tot i + en) = tot i + en := IntWalk.i64_in _ (by omega)
      have s3 : IntKind.i64.wrap (tot i + en - v3) = tot i + en - v3 := IntWalk.i64_in _ (by omega)
      have F1 := Lib.hid (show tot (i + 1) = tot i + en - v3 by omega)
      replace hm := Lib.hid hm
      clear hBe f1 f2 p1 p2
      go_upto_region 5 with fail
      refine wp_region_rove (X := Option Addr × Nat) (none, 0) (fun x => [(18, .pointer (some ⟨b, 0, none⟩)), (19, .pointer (some ⟨b, 0, none⟩)), (20, .pointer (some ⟨b, 0, none⟩)), (21, .slice (some aV) n dF), (22, .int .i64 (i : Int)), (23, .pointer (some (aV.add (i * 5)))), (24, .agg Y), (25, .pointer (some ⟨b, 0, none⟩)), (26, .pointer (some ⟨b, 0, none⟩)), (27, .pointer (some ⟨b, 2, none⟩)), (28, .slice (some aR) n n), (29, .int .i64 (i : Int)), (30, .pointer (some (aR.add i))), (31, .slice qi ln di), (32, .pointer (some ⟨b, 0, none⟩)), (33, .pointer (some ⟨b, 0, none⟩)), (34, .pointer (some ⟨b, 1, none⟩)), (35, .slice qT T dT), (38, .int .i64 en), (39, .int .i64 0), (6, .int .i64 en), (7, .int .i64 0)] ++ [(36, .tuple #[.slice x.1 L.length x.2, .int .i64 en, .int .i64 0]), (17, .tuple #[.slice x.1 L.length x.2, .int .i64 en, .int .i64 0]), (37, .slice x.1 L.length x.2), (5, .slice x.1 L.length x.2)])
        (fun x d W' => Mod (fun _ => False) wr W') (by kernel_rfl) (by kernel_rfl) (by kernel_rfl) (by kernel_rfl) (fun x => by kernel_rfl)
        (Mod.refl _ _).drew ?_ ?_
      · intro aF hAF
        have E0 : ∀ x, (aF x).eval (.tmp 0) = .pointer (some ⟨b, 0, none⟩) := by intro x; rw [hAF]; kernel_rfl
        have E4 : ∀ x, (aF x).eval (.tmp 4) = .int .i64 (i : Int) := by intro x; rw [hAF]; kernel_rfl
        have T18 : ∀ x, (aF x).tmps[18]? = some (.pointer (some ⟨b, 0, none⟩)) := by intro x; rw [hAF]; kernel_rfl
        have E18 : ∀ x, (aF x).eval (.tmp 18) = .pointer (some ⟨b, 0, none⟩) := by intro x; rw [hAF]; kernel_rfl
        have T19 : ∀ x, (aF x).tmps[19]? = some (.pointer (some ⟨b, 0, none⟩)) := by intro x; rw [hAF]; kernel_rfl
        have E19 : ∀ x, (aF x).eval (.tmp 19) = .pointer (some ⟨b, 0, none⟩) := by intro x; rw [hAF]; kernel_rfl
        have T20 : ∀ x, (aF x).tmps[20]? = some (.pointer (some ⟨b, 0, none⟩)) := by intro x; rw [hAF]; kernel_rfl
        have E20 : ∀ x, (aF x).eval (.tmp 20) = .pointer (some ⟨b, 0, none⟩) := by intro x; rw [hAF]; kernel_rfl
        have T21 : ∀ x, (aF x).tmps[21]? = some (.slice (some aV) n dF) := by intro x; rw [hAF]; kernel_rfl
        have E21 : ∀ x, (aF x).eval (.tmp 21) = .slice (some aV) n dF := by intro x; rw [hAF]; kernel_rfl
        have T22 : ∀ x, (aF x).tmps[22]? = some (.int .i64 (i : Int)) := by intro x; rw [hAF]; kernel_rfl
        have E22 : ∀ x, (aF x).eval (.tmp 22) = .int .i64 (i : Int) := by intro x; rw [hAF]; kernel_rfl
        have T23 : ∀ x, (aF x).tmps[23]? = some (.pointer (some (aV.add (i * 5)))) := by intro x; rw [hAF]; kernel_rfl
        have E23 : ∀ x, (aF x).eval (.tmp 23) = .pointer (some (aV.add (i * 5))) := by intro x; rw [hAF]; kernel_rfl
        have T24 : ∀ x, (aF x).tmps[24]? = some (.agg Y) := by intro x; rw [hAF]; kernel_rfl
        have E24 : ∀ x, (aF x).eval (.tmp 24) = .agg Y := by intro x; rw [hAF]; kernel_rfl
        have T25 : ∀ x, (aF x).tmps[25]? = some (.pointer (some ⟨b, 0, none⟩)) := by intro x; rw [hAF]; kernel_rfl
        have E25 : ∀ x, (aF x).eval (.tmp 25) = .pointer (some ⟨b, 0, none⟩) := by intro x; rw [hAF]; kernel_rfl
        have T26 : ∀ x, (aF x).tmps[26]? = some (.pointer (some ⟨b, 0, none⟩)) := by intro x; rw [hAF]; kernel_rfl
        have E26 : ∀ x, (aF x).eval (.tmp 26) = .pointer (some ⟨b, 0, none⟩) := by intro x; rw [hAF]; kernel_rfl
        have T27 : ∀ x, (aF x).tmps[27]? = some (.pointer (some ⟨b, 2, none⟩)) := by intro x; rw [hAF]; kernel_rfl
        have E27 : ∀ x, (aF x).eval (.tmp 27) = .pointer (some ⟨b, 2, none⟩) := by intro x; rw [hAF]; kernel_rfl
        have T28 : ∀ x, (aF x).tmps[28]? = some (.slice (some aR) n n) := by intro x; rw [hAF]; kernel_rfl
        have E28 : ∀ x, (aF x).eval (.tmp 28) = .slice (some aR) n n := by intro x; rw [hAF]; kernel_rfl
        have T29 : ∀ x, (aF x).tmps[29]? = some (.int .i64 (i : Int)) := by intro x; rw [hAF]; kernel_rfl
        have E29 : ∀ x, (aF x).eval (.tmp 29) = .int .i64 (i : Int) := by intro x; rw [hAF]; kernel_rfl
        have T30 : ∀ x, (aF x).tmps[30]? = some (.pointer (some (aR.add i))) := by intro x; rw [hAF]; kernel_rfl
        have E30 : ∀ x, (aF x).eval (.tmp 30) = .pointer (some (aR.add i)) := by intro x; rw [hAF]; kernel_rfl
        have T31 : ∀ x, (aF x).tmps[31]? = some (.slice qi ln di) := by intro x; rw [hAF]; kernel_rfl
        have E31 : ∀ x, (aF x).eval (.tmp 31) = .slice qi ln di := by intro x; rw [hAF]; kernel_rfl
        have T32 : ∀ x, (aF x).tmps[32]? = some (.pointer (some ⟨b, 0, none⟩)) := by intro x; rw [hAF]; kernel_rfl
        have E32 : ∀ x, (aF x).eval (.tmp 32) = .pointer (some ⟨b, 0, none⟩) := by intro x; rw [hAF]; kernel_rfl
        have T33 : ∀ x, (aF x).tmps[33]? = some (.pointer (some ⟨b, 0, none⟩)) := by intro x; rw [hAF]; kernel_rfl
        have E33 : ∀ x, (aF x).eval (.tmp 33) = .pointer (some ⟨b, 0, none⟩) := by intro x; rw [hAF]; kernel_rfl
        have T34 : ∀ x, (aF x).tmps[34]? = some (.pointer (some ⟨b, 1, none⟩)) := by intro x; rw [hAF]; kernel_rfl
        have E34 : ∀ x, (aF x).eval (.tmp 34) = .pointer (some ⟨b, 1, none⟩) := by intro x; rw [hAF]; kernel_rfl
        have T35 : ∀ x, (aF x).tmps[35]? = some (.slice qT T dT) := by intro x; rw [hAF]; kernel_rfl
        have E35 : ∀ x, (aF x).eval (.tmp 35) = .slice qT T dT := by intro x; rw [hAF]; kernel_rfl
        have T38 : ∀ x, (aF x).tmps[38]? = some (.int .i64 en) := by intro x; rw [hAF]; kernel_rfl
        have E38 : ∀ x, (aF x).eval (.tmp 38) = .int .i64 en := by intro x; rw [hAF]; kernel_rfl
        have T39 : ∀ x, (aF x).tmps[39]? = some (.int .i64 0) := by intro x; rw [hAF]; kernel_rfl
        have E39 : ∀ x, (aF x).eval (.tmp 39) = .int .i64 0 := by intro x; rw [hAF]; kernel_rfl
        have T6 : ∀ x, (aF x).tmps[6]? = some (.int .i64 en) := by intro x; rw [hAF]; kernel_rfl
        have E6 : ∀ x, (aF x).eval (.tmp 6) = .int .i64 en := by intro x; rw [hAF]; kernel_rfl
        have T7 : ∀ x, (aF x).tmps[7]? = some (.int .i64 0) := by intro x; rw [hAF]; kernel_rfl
        have E7 : ∀ x, (aF x).eval (.tmp 7) = .int .i64 0 := by intro x; rw [hAF]; kernel_rfl
        have T36 : ∀ x, (aF x).tmps[36]? = some (.tuple #[.slice x.1 L.length x.2, .int .i64 en, .int .i64 0]) := by intro x; rw [hAF]; kernel_rfl
        have E36 : ∀ x, (aF x).eval (.tmp 36) = .tuple #[.slice x.1 L.length x.2, .int .i64 en, .int .i64 0] := by intro x; rw [hAF]; kernel_rfl
        have T17 : ∀ x, (aF x).tmps[17]? = some (.tuple #[.slice x.1 L.length x.2, .int .i64 en, .int .i64 0]) := by intro x; rw [hAF]; kernel_rfl
        have E17 : ∀ x, (aF x).eval (.tmp 17) = .tuple #[.slice x.1 L.length x.2, .int .i64 en, .int .i64 0] := by intro x; rw [hAF]; kernel_rfl
        have T37 : ∀ x, (aF x).tmps[37]? = some (.slice x.1 L.length x.2) := by intro x; rw [hAF]; kernel_rfl
        have E37 : ∀ x, (aF x).eval (.tmp 37) = .slice x.1 L.length x.2 := by intro x; rw [hAF]; kernel_rfl
        have T5 : ∀ x, (aF x).tmps[5]? = some (.slice x.1 L.length x.2) := by intro x; rw [hAF]; kernel_rfl
        have E5 : ∀ x, (aF x).eval (.tmp 5) = .slice x.1 L.length x.2 := by intro x; rw [hAF]; kernel_rfl
        replace hAF := Lib.hid hAF
        refine ⟨?_, ?_, ?_, ?_, ?_, ?_, ?_, ?_, ?_, ?_, ?_, ?_, ?_, ?_, ?_, ?_, ?_, ?_, ?_, ?_, ?_, ?_, ?_, ?_, ?_, ?_, trivial⟩
        · exact opOk3_quiet _ (by intro x t hd _; cases hd; exact T18 x) (fun _ => rfl) fun x d w' hd hc => sv (run_mov rfl (E0 x)) hc
        · exact opOk3_quiet _ (by intro x t hd _; cases hd; exact T19 x) (fun _ => rfl) fun x d w' hd hc => sv (run_nilP rfl (E18 x)) hc
        · exact opOk3_quiet _ (by intro x t hd _; cases hd; exact T20 x) (fun _ => rfl) fun x d w' hd hc => sv (run_fldT rfl (E19 x) (fun _ => by kernel_rfl)) hc
        · exact opOk3_quiet _ (by intro x t hd _; cases hd; exact T21 x) (fun _ => rfl) fun x d w' hd hc => sv (run_load1 rfl (E20 x) (hB0.out _ hc)) hc
        · exact opOk3_quiet _ (by intro x t hd _; cases hd; exact T22 x) (fun _ => rfl) fun x d w' hd hc => sv (run_mov rfl (E4 x)) hc
        · exact opOk3_quiet _ (by intro x t hd _; cases hd; exact T23 x) (fun _ => rfl) fun x d w' hd hc => sv (run_ixVeR rfl (E21 x) (E22 x) hlt) hc
        · exact opOk3_quiet _ (by intro x t hd _; cases hd; exact T24 x) (fun _ => rfl) fun x d w' hd hc => sv (run_load1 rfl (E23 x) (hVi.out _ hc)) hc
        · exact opOk3_quiet _ (by intro x t hd _; cases hd; exact T25 x) (fun _ => rfl) fun x d w' hd hc => sv (run_mov rfl (E0 x)) hc
        · exact opOk3_quiet _ (by intro x t hd _; cases hd; exact T26 x) (fun _ => rfl) fun x d w' hd hc => sv (run_nilP rfl (E25 x)) hc
        · exact opOk3_quiet _ (by intro x t hd _; cases hd; exact T27 x) (fun _ => rfl) fun x d w' hd hc => sv (run_fldT rfl (E26 x) (fun _ => by kernel_rfl)) hc
        · exact opOk3_quiet _ (by intro x t hd _; cases hd; exact T28 x) (fun _ => rfl) fun x d w' hd hc => sv (run_load1 rfl (E27 x) (hB2.out _ hc)) hc
        · exact opOk3_quiet _ (by intro x t hd _; cases hd; exact T29 x) (fun _ => rfl) fun x d w' hd hc => sv (run_mov rfl (E4 x)) hc
        · exact opOk3_quiet _ (by intro x t hd _; cases hd; exact T30 x) (fun _ => rfl) fun x d w' hd hc => sv (run_ixRs rfl (E28 x) (E29 x) hlt) hc
        · exact opOk3_quiet _ (by intro x t hd _; cases hd; exact T31 x) (fun _ => rfl) fun x d w' hd hc => sv (run_load1 rfl (E30 x) (hRi.out _ hc)) hc
        · exact opOk3_quiet _ (by intro x t hd _; cases hd; exact T32 x) (fun _ => rfl) fun x d w' hd hc => sv (run_mov rfl (E0 x)) hc
        · exact opOk3_quiet _ (by intro x t hd _; cases hd; exact T33 x) (fun _ => rfl) fun x d w' hd hc => sv (run_nilP rfl (E32 x)) hc
        · exact opOk3_quiet _ (by intro x t hd _; cases hd; exact T34 x) (fun _ => rfl) fun x d w' hd hc => sv (run_fldT rfl (E33 x) (fun _ => by kernel_rfl)) hc
        · exact opOk3_quiet _ (by intro x t hd _; cases hd; exact T35 x) (fun _ => rfl) fun x d w' hd hc => sv (run_load1 rfl (E34 x) (hB1.out _ hc)) hc
        · exact opOk3_loud rfl fun x d w' hd hn hc => by
              refine sk (run_callT7 rfl (E24 x) (E31 x) (E35 x)) ((hTi.out w' hc).mono ?_)
              rintro e w'' ⟨q, dd, rfl, hb, -⟩
              exact ⟨_, rfl, (q, dd), (by rw [hAF.out]; exact agree_any (by kernel_rfl) (by kernel_rfl)), (by intro t hd _; cases hd; exact T36 _), hc.after hb⟩
        · exact opOk3_quiet (fun x => .tuple #[.slice x.1 L.length x.2, .int .i64 en, .int .i64 0]) (by intro x t hd _; cases hd; exact T17 x) (fun _ => rfl) fun x d w' hd hc => sv (run_mov rfl (E36 x)) hc
        · exact opOk3_quiet (fun x => .slice x.1 L.length x.2) (by intro x t hd _; cases hd; exact T37 x) (fun _ => rfl) fun x d w' hd hc => sv (run_ext rfl (E17 x) rfl) hc
        · exact opOk3_quiet _ (by intro x t hd _; cases hd; exact T38 x) (fun _ => rfl) fun x d w' hd hc => sv (run_ext rfl (E17 x) rfl) hc
        · exact opOk3_quiet _ (by intro x t hd _; cases hd; exact T39 x) (fun _ => rfl) fun x d w' hd hc => sv (run_ext rfl (E17 x) rfl) hc
        · exact opOk3_quiet (fun x => .slice x.1 L.length x.2) (by intro x t hd _; cases hd; exact T5 x) (fun _ => rfl) fun x d w' hd hc => sv (run_asg rfl (E37 x)) hc
        · exact opOk3_quiet _ (by intro x t hd _; cases hd; exact T6 x) (fun _ => rfl) fun x d w' hd hc => sv (run_asg rfl (E38 x)) hc
        · exact opOk3_quiet _ (by intro x t hd _; cases hd; exact T7 x) (fun _ => rfl) fun x d w' hd hc => sv (run_asg rfl (E39 x)) hc
      · intro x d w' hd hc
        simp only [putAll, List.foldl_cons, List.foldl_nil, List.cons_append, List.nil_append, Act.put, List.setIfInBounds_toArray, List.set_cons_succ, List.set_cons_zero]
        obtain ⟨q, dq⟩ := x
        have hm2 := Lib.hid (hm.out.trans hc)
        have c3 := h3i.out w' hc
        have k0' := hk0.out w' hc
        rw [← addr_add_add, addr_3R] at c3
        clear hc hd hB0 hB1 hB2 hTi hVi hRi h3i hk0 k0
        go_wp2_with fail
        go_roundw
        case rel => exact ⟨i + 1, by omega, by simp, by rw [F1.out], hm2.out⟩
        case measure => simp [intOf]; omega
    · obtain rfl : i = n := by omega
      replace hm := Lib.hid hm
      go_wp2_with fail
      go_ret
      exact ⟨rfl, hm.out.below (Nat.le_refl _) (fun _ h => h.elim)⟩
end Go.Proofs.YtdmnoogppmckaaaGreat
