/-
  Layer 13: holds: each route is right, and each request in one at most.
-/
import Derived.Test.YtdmnoogppmckaaaGreatPy
namespace Go.Proofs.YtdmnoogppmckaaaGreat
open Go.RowKit

theorem in_elP : ElT Tryz.prog 55 3 1 8 := ⟨Tryz.underlying55, by kernel_rfl, by kernel_rfl, by kernel_rfl, by omega, by omega⟩
theorem rsl_inP (r : Int) (w : World) : (Instr.buildSlice 55 1 #[(0, .int .i64 r)]).run Tryz.prog w = .ok (.slice (some ⟨w.heap.size, 0, none⟩) 1 1) (w.alloc (.cells (inV r).toArray 3)) := by kernel_rfl
section
variable {ρ : Operand → Value} {o : Oper} {w : World} {x y z : Operand}
theorem run_callChk {a b c : Value} (ho : o.op = .call { callee := .value (.func 58), args := #[x, y, z], argTypes := #[53, 47, 23] }) (hx : ρ x = a) (hy : ρ y = b) (hz : ρ z = c)
    (hf : ρ (.func 58) = .func (.func 58) #[] #[] := by rfl) : (execOp ρ o).run Tryz.prog w = .ok (.enter 58 #[a, b, c]) w := by
  unfold execOp
  simp only [ho]
  go_simp
theorem run_neqE {n : Int} (ho : o.op = .binOp .neq 25 x (.const (.int .i64 0)) 25) (hx : ρ x = .int .i64 n) (hc : ∀ v, ρ (.const v) = v := by intro _; rfl) : (execOp ρ o).run Tryz.prog w = .ok (.value (.bool (n != 0))) w := by
  unfold execOp
  simp only [ho, hx, hc]
  go_simp
theorem run_neqN (ho : o.op = .binOp .neq 116 x (.const .nilIface) 116) (hx : ρ x = .nilIface) (hc : ∀ v, ρ (.const v) = v := by intro _; rfl) : (execOp ρ o).run Tryz.prog w = .ok (.value (.bool false)) w := by
  unfold execOp
  simp only [ho, hx, hc]
  go_simp
theorem addr_three (b : Addr) : b.add 3 = ⟨b.block, b.off + 3, none⟩ := by unfold Addr.add; simp
theorem wanted_ofP {ops : Array Oper} {o : Oper} {ts : Array Value} {j : Nat} {b : Bool} {d : Nat} (hg : o.guard = some (j, b)) (hd : dstOf ops j = some d) (hv : ts[d]? = some (.bool b)) : Region.wanted o (yielded ops ts) = true := by
  unfold Region.wanted yielded
  unfold dstOf at hd
  simp only [hg, hd, Option.bind_some, hv, beq_self_eq_true]
theorem run_pickF {c a b : Operand} {v : Value} (ho : o.op = .pick c a b) (hc : ρ c = .bool false) (hb : ρ b = v) : (execOp ρ o).run Tryz.prog w = .ok (.value v) w := by
  unfold execOp
  simp only [ho, hc, hb]
  go_simp
end
set_option maxHeartbeats 8000000 in
set_option maxRecDepth 100000 in
theorem holds_calls {B b gT gM N : Nat} {w : World} {fl : List Ve} {rows : List Rou2} {t : List Rq} (h : PSt B w b gT gM N fl rows t) (hN : N ≤ 100000) (q q' : Option Addr) (d d' : Nat) (hF : Els w q 5 (fl.map veR)) (hT : Els w q' 10 (t.map rqV)) :
    Calls Tryz.prog 26 #[.pointer (some ⟨b, 0, none⟩), .slice q fl.length d, .slice q' t.length d'] w fun e w' => e = .returned (.bool true) ∧ Below w.heap.size w w' := by
  have hro := h.routes
  have hok := Lib.hid h.ok
  have hfl : 1 ≤ fl.length ∧ fl.length ≤ 4 := h.ok.many
  have hrl := h.ok.len
  have htl := h.tl
  have h16 := Lib.hid (fun i => h.row i)
  obtain ⟨n, hn⟩ : ∃ n, fl.length = n := ⟨_, rfl⟩
  obtain ⟨M, hM⟩ : ∃ M, t.length = M := ⟨_, rfl⟩
  rw [hn] at hfl hrl ⊢
  rw [hM] at htl ⊢
  replace hn := Lib.hid hn
  replace hM := Lib.hid hM
  replace hrl := Lib.hid hrl
  go_enter Tryz.func26, Tryz.ntmps26
  go_wp2_with fail
  refine hro.mono ?_
  clear hro
  intro e w1 hR
  obtain ⟨hb1, qR, dR, rfl, _, qs, hEl, _, hRI⟩ := hR.at_
  obtain ⟨aR, eR⟩ := hEl.some_of (k := 0) (by rw [rsV_size, hrl.out]; omega)
  subst eR
  have hP1 := Lib.hid (h.below hb1)
  have hF1 := Lib.hid (hF.below hb1)
  have hT1 := Lib.hid (hT.below hb1)
  rw [hrl.out]
  replace hb1 := Lib.hid hb1
  replace hEl := Lib.hid hEl
  replace hRI := Lib.hid hRI
  clear h hF hT
  go_wp2_with fail
  go_loopw [9, 10] (fun s9 s10 wx => ∃ m : Nat, m ≤ M ∧ s10 = .int .i64 m ∧ wx.ownsRow w1.heap.size 3 1 s9 (alK rows m).length ((alK rows m).map inV).flatten ∧ Below w1.heap.size w1 wx) (fun _ s10 _ => M - (intOf s10).toNat)
  case atStart => exact ⟨0, Nat.zero_le _, rfl, World.ownsRow_nil _ _ _ _, Below.refl _ _⟩
  case round =>
    obtain ⟨m, hm, rfl, hO, hb⟩ := hrel
    obtain ⟨q9, m9, d9, rfl⟩ := own_isS hO
    by_cases hlt : m < M
    · have hltI : (m : Int) < (M : Int) := by omega
      have hm0 : (0 : Int) ≤ (m : Int) := by omega
      have s1 : IntKind.i64.wrap ((m : Int) + 1) = (m : Int) + 1 := IntWalk.i64_in _ (by omega)
      have hcel := Lib.hid (fun (i : Nat) (hi : i < rows.length) => run_cellSt (rs_cell hEl.out ((Mod.refl (fun _ => False) w1).after hb) hi))
      have hels := Lib.hid (fun (i : Nat) (hi : i < rows.length) => (hRI.out i hi).1.below hb)
      have hwh := Lib.hid ((hP1.out.below hb).wher (m : Int) (by unfold wf64; omega))
      have hha := Lib.hid ((hP1.out.below hb).has (m : Int) (by unfold wf64; omega))
      have hpA := Lib.hid (pkR_all hok.out (m : Int))
      have hal := Lib.hid (alK_succ rows m)
      have hge := fstI_ge (fun l : Rou2 => l.any (fun s => s.1 == (m : Int))) rows
      change -1 ≤ whereP rows (m : Int) ∧ _ at hge
      replace hge := Lib.hid hge.1
      have hak := Lib.hid (alK_len rows m)
      rw [hrl.out] at hpA
      replace hO := Lib.hid hO
      replace hb := Lib.hid hb
      go_wp2_with fail
      go_loopw [11, 12, 13] (fun s11 s12 s13 wx => ∃ (i : Nat) (x y : Int), i ≤ n ∧ s11 = .int .i64 x ∧ s12 = .int .i64 y ∧ s13 = .int .i64 i ∧ Hid ((x, y) = pkR rows m i) ∧ Hid (0 ≤ x ∧ x ≤ 16 * i) ∧ wx = wr) (fun _ _ s13 _ => n - (intOf s13).toNat)
      case atStart => exact ⟨0, 0, -1, Nat.zero_le _, rfl, rfl, rfl, Lib.hid rfl, Lib.hid (by omega), rfl⟩
      case round =>
        obtain ⟨i, x, y, hi, rfl, rfl, rfl, hxy, hbd, rfl⟩ := hrel
        by_cases hli : i < n
        · have hliI : (i : Int) < (n : Int) := by omega
          have hi0 : (0 : Int) ≤ (i : Int) := by omega
          have s2 : IntKind.i64.wrap ((i : Int) + 1) = (i : Int) + 1 := IntWalk.i64_in _ (by omega)
          have hiR : i < rows.length := by rw [hrl.out]; exact hli
          have hcw := Lib.hid (hcel.out i hiR)
          have hel := Lib.hid (hels.out i hiR)
          have hl16 := h16.out i
          have hnx := Lib.hid (show pkR rows (m : Int) (i + 1) = pkS (m : Int) i (pkR rows (m : Int) i) (rows.getD i []) from rfl)
          clear hiR
          generalize rows.getD i [] = l at *
          generalize (qs.getD i (none, 0)).1 = qi at *
          generalize (qs.getD i (none, 0)).2 = di at *
          obtain ⟨ln, hln⟩ : ∃ ln, l.length = ln := ⟨_, rfl⟩
          rw [hln] at hcw hl16
          replace hln := Lib.hid hln
          go_wp2_with fail
          go_loopw [11, 12, 14] (fun s11 s12 s14 wx => ∃ (k : Nat) (x y : Int), k ≤ ln ∧ s11 = .int .i64 x ∧ s12 = .int .i64 y ∧ s14 = .int .i64 k ∧ Hid ((x, y) = pkS m i (pkR rows m i) (l.take k)) ∧ Hid (0 ≤ x ∧ x ≤ 16 * i + k) ∧ wx = wr) (fun _ _ s14 _ => ln - (intOf s14).toNat)
          case atStart => exact ⟨0, x, y, Nat.zero_le _, rfl, rfl, rfl, Lib.hid hxy.out, Lib.hid (by have := hbd.out; omega), rfl⟩
          case round =>
            clear hxy hbd
            obtain ⟨k, x, y, hk, rfl, rfl, rfl, hxy, hbd, rfl⟩ := hrel
            by_cases hlk : k < ln
            · have hlkI : (k : Int) < (ln : Int) := by omega
              have hk0 : (0 : Int) ≤ (k : Int) := by omega
              have s3 : IntKind.i64.wrap ((k : Int) + 1) = (k : Int) + 1 := IntWalk.i64_in _ (by omega)
              have s4 : IntKind.i64.wrap (x + 1) = x + 1 := IntWalk.i64_in _ (by have := hbd.out; omega)
              have hkl : k < l.length := by rw [hln.out]; exact hlk
              obtain ⟨aL, e⟩ := hel.out.some_of (k := k) (by simpa using hkl)
              subst e
              have c0 := hel.out.cells aL rfl k (stV l[k]) 0 (.int .i64 l[k].1) (by rw [List.getElem?_map, List.getElem?_eq_getElem hkl]; rfl) rfl
              have c1 := hel.out.cells aL rfl k (stV l[k]) 1 (.int .i64 l[k].2) (by rw [List.getElem?_map, List.getElem?_eq_getElem hkl]; rfl) rfl
              rw [Nat.add_zero] at c0
              rw [← addr_add_add, addr_one] at c1
              have hsu := Lib.hid (pkS_succ (m : Int) i (pkR rows (m : Int) i) l hkl)
              rw [← hxy.out] at hsu
              have hbd2 : Hid (0 ≤ x + 1 ∧ x + 1 ≤ 16 * i + (k + 1 : Nat)) := Lib.hid (by have := hbd.out; omega)
              have hbd3 : Hid (0 ≤ x ∧ x ≤ 16 * i + (k + 1 : Nat)) := Lib.hid (by have := hbd.out; omega)
              generalize l[k] = s at c0 c1 hsu
              obtain ⟨u, z⟩ := s
              dsimp only at c0 c1
              replace c0 := Lib.hid (run_i64 c0)
              clear hkl hxy hbd
              by_cases hu : u = (m : Int)
              · subst hu
                by_cases hz : z = 0
                · subst hz
                  have hsu2 := Lib.hid (show (x + 1, (i : Int)) = pkS m i (pkR rows m i) (l.take (k + 1)) by rw [hsu.out]; simp [isPk])
                  clear hsu
                  go_wp2_with (first | (refine wpList_load_v rfl 47 _ rfl (aR.add i) rfl _ hcw.out ?_) | (refine wpList_load_v rfl 3 _ rfl (aL.add (k * 2)) rfl _ c0.out ?_))
                  go_roundw
                  case rel => exact ⟨k + 1, x + 1, i, by omega, rfl, rfl, by simp, hsu2, hbd2, trivial⟩
                  case measure => simp [intOf]; omega
                · have hsu2 := Lib.hid (show (x, y) = pkS m i (pkR rows m i) (l.take (k + 1)) by rw [hsu.out]; simp [isPk, hz])
                  clear hsu
                  go_wp2_with (first | (refine wpList_load_v rfl 47 _ rfl (aR.add i) rfl _ hcw.out ?_) | (refine wpList_load_v rfl 3 _ rfl (aL.add (k * 2)) rfl _ c0.out ?_))
                  go_roundw
                  case rel => exact ⟨k + 1, x, y, by omega, rfl, rfl, by simp, hsu2, hbd3, trivial⟩
                  case measure => simp [intOf]; omega
              · have hsu2 := Lib.hid (show (x, y) = pkS m i (pkR rows m i) (l.take (k + 1)) by rw [hsu.out]; simp [isPk, hu])
                have hu' : (u == (m : Int)) = false := beq_eq_false_iff_ne.2 hu
                clear hsu
                go_wp2_with (first | (refine wpList_load_v rfl 47 _ rfl (aR.add i) rfl _ hcw.out ?_) | (refine wpList_load_v rfl 3 _ rfl (aL.add (k * 2)) rfl _ c0.out ?_))
                go_roundw
                case rel => exact ⟨k + 1, x, y, by omega, rfl, rfl, by simp, hsu2, hbd3, trivial⟩
                case measure => simp [intOf]; omega
            · obtain rfl : k = ln := by omega
              have hxy2 := Lib.hid (show (x, y) = pkR rows m (i + 1) by rw [hnx.out, hxy.out, List.take_of_length_le (by rw [hln.out]; omega)])
              have hbd2 : Hid (0 ≤ x ∧ x ≤ 16 * ((i + 1 : Nat) : Int)) := Lib.hid (by have := hbd.out; omega)
              clear hxy hbd
              go_wp2_with (refine wpList_load_v rfl 47 _ rfl (aR.add i) rfl _ hcw.out ?_)
              go_roundw
              case rel => exact ⟨i + 1, x, y, by omega, rfl, rfl, by simp, hxy2, hbd2, trivial⟩
              case measure => simp [intOf]; omega
        · obtain rfl : i = n := by omega
          have hpf := hpA.out
          rw [← hxy.out] at hpf
          clear hxy hbd hpA hcel hels
          by_cases hw0 : 0 ≤ whereP rows (m : Int)
          · rw [if_pos hw0] at hpf
            obtain ⟨rfl, rfl⟩ : x = 1 ∧ y = whereP rows (m : Int) := by simpa using hpf
            have hal2 := Lib.hid (show alK rows (m + 1) = alK rows m ++ [(m : Int)] by rw [hal.out, if_pos hw0])
            have hha2 := hha.out
            rw [decide_eq_true hw0] at hha2
            replace hha2 := Lib.hid hha2
            clear hpf hal hha hge
            generalize whereP rows (m : Int) = wv at *
            go_wp2_with fail
            refine hwh.out.mono ?_
            rintro e w5 ⟨rfl, rfl⟩
            go_wp2_with fail
            refine hha2.out.mono ?_
            rintro e w6 ⟨rfl, rfl⟩
            have hOA := Lib.hid (own_mod hO.out ((Mod.refl (fun _ => False) wr).alloc (.cells (inV (m : Int)).toArray 3)) (fun _ _ h => h))
            have hlow := Lib.hid (hb.out.alloc hb.out.size (.cells (inV (m : Int)).toArray 3))
            have hzA := Lib.hid hlow.out.size
            have hal3 : (alK rows m).length ≤ 100000 := by have := hak.out; omega
            clear hO hb hha2 hwh
            go_wp2_with (first | (refine wpList_bs1 rfl 55 1 0 _ rfl (.int .i64 (m : Int)) rfl _ _ (rsl_inP _ _) ?_) |
              (refine wpList_appG in_elP rfl _ _ rfl w1.heap.size hzA.out _ (alK rows m).length _ rfl hOA.out hal3 ⟨wr.heap.size, 0, none⟩ 1 1 (inV (m : Int)) rfl rfl (by omega) (row_cells (Blk.new wr _ _)) (in_one _) ?_; intro v7 w7 hO7 hg7))
            have hb7 := Lib.hid (grown_low hlow.out (Nat.le_refl _) (Nat.le_refl _) hOA.out hg7)
            replace hO7 := Lib.hid hO7
            clear hg7 hOA hzA hlow
            go_roundw
            case rel => exact ⟨m + 1, by omega, by simp, by rw [hal2.out]; simpa using hO7.out, hb7.out⟩
            case measure => simp [intOf]; omega
          · rw [if_neg hw0] at hpf
            obtain ⟨rfl, rfl⟩ : x = 0 ∧ y = -1 := by simpa using hpf
            have hal2 := Lib.hid (show alK rows (m + 1) = alK rows m by rw [hal.out, if_neg hw0, List.append_nil])
            have hha2 := hha.out
            rw [decide_eq_false hw0] at hha2
            replace hha2 := Lib.hid hha2
            have hwv : whereP rows (m : Int) = -1 := by have := hge.out; omega
            rw [hwv] at hwh
            clear hpf hal hha hge hwv
            go_wp2_with fail
            refine hwh.out.mono ?_
            rintro e w5 ⟨rfl, rfl⟩
            go_wp2_with fail
            refine hha2.out.mono ?_
            rintro e w6 ⟨rfl, rfl⟩
            go_wp2_with fail
            go_roundw
            case rel => exact ⟨m + 1, by omega, by simp, by rw [hal2.out]; exact hO.out, hb.out⟩
            case measure => simp [intOf]; omega
    · obtain rfl : m = M := by omega
      have hEA := own_els (R := (alK rows m).map inV) (inV_len _) (by rw [List.length_map]; exact hO) (by rw [List.length_map]; have := alK_len rows m; omega)
      rw [List.length_map] at hEA
      obtain ⟨hEA, hm9, hd9, _⟩ := hEA
      subst hm9
      have hAQ := Lib.hid (show alK rows m = allQ rows t from by rw [← alK_all, hM.out])
      replace hEA := Lib.hid hEA
      replace hb := Lib.hid hb
      clear hO
      go_wp2_with fail
      go_loopw [8, 15] (fun s8 s15 wx => ∃ i : Nat, i ≤ n ∧ s15 = .int .i64 i ∧ s8 = .int .i64 (totK fl rows t i) ∧ Mod (fun _ => False) wr wx) (fun _ s15 _ => n - (intOf s15).toNat)
      case atStart => exact ⟨0, Nat.zero_le _, rfl, rfl, Mod.refl _ _⟩
      case round =>
        obtain ⟨i, hi, rfl, rfl, hm4⟩ := hrel
        by_cases hlt : i < n
        · have hiF : i < fl.length := by rw [hn.out]; exact hlt
          have hiR : i < rows.length := by rw [hrl.out]; exact hlt
          have hltI : (i : Int) < (n : Int) := by omega
          have hi0 : (0 : Int) ≤ (i : Int) := by omega
          have s1 : IntKind.i64.wrap ((i : Int) + 1) = (i : Int) + 1 := IntWalk.i64_in _ (by omega)
          have hmw := Lib.hid (((Mod.refl (fun _ => False) w1).after hb.out).trans hm4)
          obtain ⟨aV, e⟩ := hF1.out.some_of (k := i) (by simpa using hiF)
          subst e
          have hlv := Lib.hid (fun wx (h : Mod (fun _ => False) wr wx) => (show (loadVar 53 (aV.add (i * 5))).run Tryz.prog wx = .ok (.agg (veR (fl.getD i ve0)).toArray) wx from by
            have := (els_modP hF1.out (hmw.out.trans h) (fun _ _ _ h => h)).load (P := Tryz.prog) (a := aV) rfl (k := i) (by simpa using hiF) (ty := 53) Tryz.underlying53 rfl (by kernel_rfl)
            rw [List.getElem_map] at this
            rw [List.getD_eq_getElem?_getD, List.getElem?_eq_getElem hiF]
            exact this))
          have hcw := Lib.hid (fun wx (h : Mod (fun _ => False) wr wx) => run_cellSt (rs_cell hEl.out (hmw.out.trans h) hiR))
          have hEi := (hRI.out i hiR).1
          have htb := totV_bd (hok.out.right i hiF)
          have htk := totK_bd hok.out i (by omega)
          have htm := Lib.hid (fun wx (h : Mod (fun _ => False) wr wx) => (show Calls Tryz.prog 45 #[.agg (veR (fl.getD i ve0)).toArray, .slice (qs.getD i (none, 0)).1 (rows.getD i []).length (qs.getD i (none, 0)).2, .slice q' t.length d'] wx (TmPost wx (timV (fl.getD i ve0) (rows.getD i []) t)) from
            times_calls _ _ _ _ _ _ _ _ _ (rows.getD i []) t wx (els_modP hEi (hmw.out.trans h) (fun _ _ _ h => h)) (els_modP hT1.out (hmw.out.trans h) (fun _ _ _ h => h))))
          have hfb : fsB (fl.getD i ve0 0) (fl.getD i ve0 1) (fl.getD i ve0 2) (fl.getD i ve0 3) (fl.getD i ve0 4) (rows.getD i []) t = true := (fsB_iff _ _ _ _ _ _ _).2 (hok.out.right i hiF)
          have hck := Lib.hid (fun wx (h : Mod (fun _ => False) wr wx) => (show Calls Tryz.prog 58 #[.agg (veR (fl.getD i ve0)).toArray, .slice (qs.getD i (none, 0)).1 (rows.getD i []).length (qs.getD i (none, 0)).2, .slice q' t.length d'] wx (fun e w'' => e = .returned .nilIface ∧ Below wx.heap.size wx w'') from
            (fcheck_calls _ _ _ _ _ _ _ _ _ (rows.getD i []) t wx (els_modP hEi (hmw.out.trans h) (fun _ _ _ h => h)) (els_modP hT1.out (hmw.out.trans h) (fun _ _ _ h => h))).mono (fun e w'' hp => by
              rw [hfb] at hp
              exact ⟨hp.1 rfl, hp.2.2⟩)))
          have hv3 : ∀ wx, Mod (fun _ => False) wr wx → wx.cell? (aV.add (i * 5 + 3)) = some (.int .i64 (fl.getD i ve0 3)) := fun wx h => (els_modP hF1.out (hmw.out.trans h) (fun _ _ _ h => h)).cells aV rfl i (veR (fl.getD i ve0)) 3 _ (by rw [List.getElem?_map, List.getElem?_eq_getElem hiF, List.getD_eq_getElem?_getD, List.getElem?_eq_getElem hiF]; rfl) rfl
          replace hv3 := Lib.hid hv3
          clear hfb
          have hnx : totK fl rows t (i + 1) = totK fl rows t i + totV (fl.getD i ve0) (rows.getD i []) t := rfl
          rw [hM.out] at htm hck
          obtain ⟨L, en, e0, hTM⟩ : ∃ L en e0, timV (fl.getD i ve0) (rows.getD i []) t = (L, en, e0) := ⟨_, _, _, rfl⟩
          have htv : totV (fl.getD i ve0) (rows.getD i []) t = en - fl.getD i ve0 3 := by unfold totV; rw [hTM]
          obtain ⟨p1, p2, p3, p4⟩ := htb
          rw [hTM] at htm p4
          obtain rfl : e0 = 0 := p4
          unfold TmPost at htm
          dsimp only at htm
          rw [htv] at hnx p1 p2
          replace hTM := Lib.hid hTM
          clear htv hiF hiR
          obtain ⟨l, hll⟩ : ∃ l, rows.getD i [] = l := ⟨_, rfl⟩
          obtain ⟨V, hVV⟩ : ∃ V, fl.getD i ve0 = V := ⟨_, rfl⟩
          obtain ⟨Y, hY⟩ : ∃ Y, (veR V).toArray = Y := ⟨_, rfl⟩
          rw [hVV] at hlv htm hck hnx p1 p2 p3 hv3
          rw [hY] at hlv htm hck
          rw [hll] at hcw htm hck hEi
          generalize (qs.getD i (none, 0)).1 = qi at *
          generalize (qs.getD i (none, 0)).2 = di at *
          obtain ⟨ln, hln⟩ : ∃ ln, l.length = ln := ⟨_, rfl⟩
          rw [hln] at hcw htm hck
          replace hln := Lib.hid hln
          replace hll := Lib.hid hll
          replace hVV := Lib.hid hVV
          replace hY := Lib.hid hY
          replace hnx := Lib.hid hnx
          replace hEi := Lib.hid hEi
          replace hm4 := Lib.hid hm4
          go_upto_region 26 with fail
          refine wp_region_rove (X := Option Addr × Nat) (none, 0) (fun x => [(101, .slice (some aV) n d), (102, .int .i64 i), (103, .pointer (some (aV.add (i * 5)))), (104, .agg Y), (105, .slice (some aR) n dR), (106, .int .i64 i), (107, .pointer (some (aR.add i))), (108, .slice qi ln di), (109, .slice q' m d'), (112, .int .i64 en), (113, .int .i64 0), (17, .int .i64 en), (18, .int .i64 0)] ++ [(110, .tuple #[.slice x.1 L.length x.2, .int .i64 en, .int .i64 0]), (100, .tuple #[.slice x.1 L.length x.2, .int .i64 en, .int .i64 0]), (111, .slice x.1 L.length x.2), (16, .slice x.1 L.length x.2)])
            (fun x d W' => Mod (fun _ => False) wr W') (by kernel_rfl) (by kernel_rfl) (by kernel_rfl) (by kernel_rfl) (fun x => by kernel_rfl)
            (Mod.refl _ _).drew ?_ ?_
          · intro aF hAF
            have E1 : ∀ x, (aF x).eval (.tmp 1) = .slice (some aV) n d := by intro x; rw [hAF]; kernel_rfl
            have E15 : ∀ x, (aF x).eval (.tmp 15) = .int .i64 i := by intro x; rw [hAF]; kernel_rfl
            have E7 : ∀ x, (aF x).eval (.tmp 7) = .slice (some aR) n dR := by intro x; rw [hAF]; kernel_rfl
            have E2 : ∀ x, (aF x).eval (.tmp 2) = .slice q' m d' := by intro x; rw [hAF]; kernel_rfl
            have T101 : ∀ x, (aF x).tmps[101]? = some (.slice (some aV) n d) := by intro x; rw [hAF]; kernel_rfl
            have E101 : ∀ x, (aF x).eval (.tmp 101) = .slice (some aV) n d := by intro x; rw [hAF]; kernel_rfl
            have T102 : ∀ x, (aF x).tmps[102]? = some (.int .i64 i) := by intro x; rw [hAF]; kernel_rfl
            have E102 : ∀ x, (aF x).eval (.tmp 102) = .int .i64 i := by intro x; rw [hAF]; kernel_rfl
            have T103 : ∀ x, (aF x).tmps[103]? = some (.pointer (some (aV.add (i * 5)))) := by intro x; rw [hAF]; kernel_rfl
            have E103 : ∀ x, (aF x).eval (.tmp 103) = .pointer (some (aV.add (i * 5))) := by intro x; rw [hAF]; kernel_rfl
            have T104 : ∀ x, (aF x).tmps[104]? = some (.agg Y) := by intro x; rw [hAF]; kernel_rfl
            have E104 : ∀ x, (aF x).eval (.tmp 104) = .agg Y := by intro x; rw [hAF]; kernel_rfl
            have T105 : ∀ x, (aF x).tmps[105]? = some (.slice (some aR) n dR) := by intro x; rw [hAF]; kernel_rfl
            have E105 : ∀ x, (aF x).eval (.tmp 105) = .slice (some aR) n dR := by intro x; rw [hAF]; kernel_rfl
            have T106 : ∀ x, (aF x).tmps[106]? = some (.int .i64 i) := by intro x; rw [hAF]; kernel_rfl
            have E106 : ∀ x, (aF x).eval (.tmp 106) = .int .i64 i := by intro x; rw [hAF]; kernel_rfl
            have T107 : ∀ x, (aF x).tmps[107]? = some (.pointer (some (aR.add i))) := by intro x; rw [hAF]; kernel_rfl
            have E107 : ∀ x, (aF x).eval (.tmp 107) = .pointer (some (aR.add i)) := by intro x; rw [hAF]; kernel_rfl
            have T108 : ∀ x, (aF x).tmps[108]? = some (.slice qi ln di) := by intro x; rw [hAF]; kernel_rfl
            have E108 : ∀ x, (aF x).eval (.tmp 108) = .slice qi ln di := by intro x; rw [hAF]; kernel_rfl
            have T109 : ∀ x, (aF x).tmps[109]? = some (.slice q' m d') := by intro x; rw [hAF]; kernel_rfl
            have E109 : ∀ x, (aF x).eval (.tmp 109) = .slice q' m d' := by intro x; rw [hAF]; kernel_rfl
            have T112 : ∀ x, (aF x).tmps[112]? = some (.int .i64 en) := by intro x; rw [hAF]; kernel_rfl
            have E112 : ∀ x, (aF x).eval (.tmp 112) = .int .i64 en := by intro x; rw [hAF]; kernel_rfl
            have T113 : ∀ x, (aF x).tmps[113]? = some (.int .i64 0) := by intro x; rw [hAF]; kernel_rfl
            have E113 : ∀ x, (aF x).eval (.tmp 113) = .int .i64 0 := by intro x; rw [hAF]; kernel_rfl
            have T17 : ∀ x, (aF x).tmps[17]? = some (.int .i64 en) := by intro x; rw [hAF]; kernel_rfl
            have E17 : ∀ x, (aF x).eval (.tmp 17) = .int .i64 en := by intro x; rw [hAF]; kernel_rfl
            have T18 : ∀ x, (aF x).tmps[18]? = some (.int .i64 0) := by intro x; rw [hAF]; kernel_rfl
            have E18 : ∀ x, (aF x).eval (.tmp 18) = .int .i64 0 := by intro x; rw [hAF]; kernel_rfl
            have T110 : ∀ x, (aF x).tmps[110]? = some (.tuple #[.slice x.1 L.length x.2, .int .i64 en, .int .i64 0]) := by intro x; rw [hAF]; kernel_rfl
            have E110 : ∀ x, (aF x).eval (.tmp 110) = .tuple #[.slice x.1 L.length x.2, .int .i64 en, .int .i64 0] := by intro x; rw [hAF]; kernel_rfl
            have T100 : ∀ x, (aF x).tmps[100]? = some (.tuple #[.slice x.1 L.length x.2, .int .i64 en, .int .i64 0]) := by intro x; rw [hAF]; kernel_rfl
            have E100 : ∀ x, (aF x).eval (.tmp 100) = .tuple #[.slice x.1 L.length x.2, .int .i64 en, .int .i64 0] := by intro x; rw [hAF]; kernel_rfl
            have T111 : ∀ x, (aF x).tmps[111]? = some (.slice x.1 L.length x.2) := by intro x; rw [hAF]; kernel_rfl
            have E111 : ∀ x, (aF x).eval (.tmp 111) = .slice x.1 L.length x.2 := by intro x; rw [hAF]; kernel_rfl
            have T16 : ∀ x, (aF x).tmps[16]? = some (.slice x.1 L.length x.2) := by intro x; rw [hAF]; kernel_rfl
            have E16 : ∀ x, (aF x).eval (.tmp 16) = .slice x.1 L.length x.2 := by intro x; rw [hAF]; kernel_rfl
            replace hAF := Lib.hid hAF
            refine ⟨?_, ?_, ?_, ?_, ?_, ?_, ?_, ?_, ?_, ?_, ?_, ?_, ?_, ?_, ?_, ?_, ?_, trivial⟩
            · exact opOk3_quiet _ (by intro x t hd _; cases hd; exact T101 x) (fun _ => rfl) fun x d w' hd hc => sv (run_mov rfl (E1 x)) hc
            · exact opOk3_quiet _ (by intro x t hd _; cases hd; exact T102 x) (fun _ => rfl) fun x d w' hd hc => sv (run_mov rfl (E15 x)) hc
            · exact opOk3_quiet _ (by intro x t hd _; cases hd; exact T103 x) (fun _ => rfl) fun x d w' hd hc => sv (run_ixVe rfl (E101 x) (E102 x) hlt) hc
            · exact opOk3_quiet _ (by intro x t hd _; cases hd; exact T104 x) (fun _ => rfl) fun x d w' hd hc => sv (run_load1 rfl (E103 x) (hlv.out _ hc)) hc
            · exact opOk3_quiet _ (by intro x t hd _; cases hd; exact T105 x) (fun _ => rfl) fun x d w' hd hc => sv (run_mov rfl (E7 x)) hc
            · exact opOk3_quiet _ (by intro x t hd _; cases hd; exact T106 x) (fun _ => rfl) fun x d w' hd hc => sv (run_mov rfl (E15 x)) hc
            · exact opOk3_quiet _ (by intro x t hd _; cases hd; exact T107 x) (fun _ => rfl) fun x d w' hd hc => sv (run_ixRs rfl (E105 x) (E106 x) hlt) hc
            · exact opOk3_quiet _ (by intro x t hd _; cases hd; exact T108 x) (fun _ => rfl) fun x d w' hd hc => sv (run_load1 rfl (E107 x) (hcw.out _ hc)) hc
            · exact opOk3_quiet _ (by intro x t hd _; cases hd; exact T109 x) (fun _ => rfl) fun x d w' hd hc => sv (run_mov rfl (E2 x)) hc
            · exact opOk3_loud rfl fun x d w' hd hn hc => by
                  refine sk (run_callTimes rfl (E104 x) (E108 x) (E109 x)) ((htm.out w' hc).mono ?_)
                  rintro e w'' ⟨q, dd, rfl, hb, -⟩
                  exact ⟨_, rfl, (q, dd), (by rw [hAF.out]; exact agree_any (by kernel_rfl) (by kernel_rfl)), (by intro t hd _; cases hd; exact T110 _), hc.after hb⟩
            · exact opOk3_quiet (fun x => .tuple #[.slice x.1 L.length x.2, .int .i64 en, .int .i64 0]) (by intro x t hd _; cases hd; exact T100 x) (fun _ => rfl) fun x d w' hd hc => sv (run_mov rfl (E110 x)) hc
            · exact opOk3_quiet (fun x => .slice x.1 L.length x.2) (by intro x t hd _; cases hd; exact T111 x) (fun _ => rfl) fun x d w' hd hc => sv (run_ext rfl (E100 x) rfl) hc
            · exact opOk3_quiet _ (by intro x t hd _; cases hd; exact T112 x) (fun _ => rfl) fun x d w' hd hc => sv (run_ext rfl (E100 x) rfl) hc
            · exact opOk3_quiet _ (by intro x t hd _; cases hd; exact T113 x) (fun _ => rfl) fun x d w' hd hc => sv (run_ext rfl (E100 x) rfl) hc
            · exact opOk3_quiet (fun x => .slice x.1 L.length x.2) (by intro x t hd _; cases hd; exact T16 x) (fun _ => rfl) fun x d w' hd hc => sv (run_asg rfl (E111 x)) hc
            · exact opOk3_quiet _ (by intro x t hd _; cases hd; exact T17 x) (fun _ => rfl) fun x d w' hd hc => sv (run_asg rfl (E112 x)) hc
            · exact opOk3_quiet _ (by intro x t hd _; cases hd; exact T18 x) (fun _ => rfl) fun x d w' hd hc => sv (run_asg rfl (E113 x)) hc
          · intro x d0 w' hd hc
            simp only [putAll, List.foldl_cons, List.foldl_nil, List.cons_append, List.nil_append, Act.put, List.setIfInBounds_toArray, List.set_cons_succ, List.set_cons_zero]
            clear hd
            obtain ⟨qx, dx⟩ := x
            go_upto_region 27 with fail
            refine wp_region_rove (X := Unit) () (fun x => [(114, .int .i64 0), (115, .bool false), (116, .bool false), (117, .slice (some aV) n d), (118, .int .i64 i), (119, .pointer (some (aV.add (i * 5)))), (120, .agg Y), (121, .slice (some aR) n dR), (122, .int .i64 i), (123, .pointer (some (aR.add i))), (124, .slice qi ln di), (125, .slice q' m d'), (126, .nilIface), (127, .bool false), (128, .bool false)])
              (fun x d W' => Mod (fun _ => False) wr W') (by kernel_rfl) (by kernel_rfl) (by kernel_rfl) (by kernel_rfl) (fun x => by kernel_rfl)
              hc.drew ?_ ?_
            · intro aF hAF
              have E18 : ∀ x, (aF x).eval (.tmp 18) = .int .i64 0 := by intro x; rw [hAF]; kernel_rfl
              have E1 : ∀ x, (aF x).eval (.tmp 1) = .slice (some aV) n d := by intro x; rw [hAF]; kernel_rfl
              have E15 : ∀ x, (aF x).eval (.tmp 15) = .int .i64 i := by intro x; rw [hAF]; kernel_rfl
              have E7 : ∀ x, (aF x).eval (.tmp 7) = .slice (some aR) n dR := by intro x; rw [hAF]; kernel_rfl
              have E2 : ∀ x, (aF x).eval (.tmp 2) = .slice q' m d' := by intro x; rw [hAF]; kernel_rfl
              have T114 : ∀ x, (aF x).tmps[114]? = some (.int .i64 0) := by intro x; rw [hAF]; kernel_rfl
              have E114 : ∀ x, (aF x).eval (.tmp 114) = .int .i64 0 := by intro x; rw [hAF]; kernel_rfl
              have T115 : ∀ x, (aF x).tmps[115]? = some (.bool false) := by intro x; rw [hAF]; kernel_rfl
              have E115 : ∀ x, (aF x).eval (.tmp 115) = .bool false := by intro x; rw [hAF]; kernel_rfl
              have T116 : ∀ x, (aF x).tmps[116]? = some (.bool false) := by intro x; rw [hAF]; kernel_rfl
              have E116 : ∀ x, (aF x).eval (.tmp 116) = .bool false := by intro x; rw [hAF]; kernel_rfl
              have T117 : ∀ x, (aF x).tmps[117]? = some (.slice (some aV) n d) := by intro x; rw [hAF]; kernel_rfl
              have E117 : ∀ x, (aF x).eval (.tmp 117) = .slice (some aV) n d := by intro x; rw [hAF]; kernel_rfl
              have T118 : ∀ x, (aF x).tmps[118]? = some (.int .i64 i) := by intro x; rw [hAF]; kernel_rfl
              have E118 : ∀ x, (aF x).eval (.tmp 118) = .int .i64 i := by intro x; rw [hAF]; kernel_rfl
              have T119 : ∀ x, (aF x).tmps[119]? = some (.pointer (some (aV.add (i * 5)))) := by intro x; rw [hAF]; kernel_rfl
              have E119 : ∀ x, (aF x).eval (.tmp 119) = .pointer (some (aV.add (i * 5))) := by intro x; rw [hAF]; kernel_rfl
              have T120 : ∀ x, (aF x).tmps[120]? = some (.agg Y) := by intro x; rw [hAF]; kernel_rfl
              have E120 : ∀ x, (aF x).eval (.tmp 120) = .agg Y := by intro x; rw [hAF]; kernel_rfl
              have T121 : ∀ x, (aF x).tmps[121]? = some (.slice (some aR) n dR) := by intro x; rw [hAF]; kernel_rfl
              have E121 : ∀ x, (aF x).eval (.tmp 121) = .slice (some aR) n dR := by intro x; rw [hAF]; kernel_rfl
              have T122 : ∀ x, (aF x).tmps[122]? = some (.int .i64 i) := by intro x; rw [hAF]; kernel_rfl
              have E122 : ∀ x, (aF x).eval (.tmp 122) = .int .i64 i := by intro x; rw [hAF]; kernel_rfl
              have T123 : ∀ x, (aF x).tmps[123]? = some (.pointer (some (aR.add i))) := by intro x; rw [hAF]; kernel_rfl
              have E123 : ∀ x, (aF x).eval (.tmp 123) = .pointer (some (aR.add i)) := by intro x; rw [hAF]; kernel_rfl
              have T124 : ∀ x, (aF x).tmps[124]? = some (.slice qi ln di) := by intro x; rw [hAF]; kernel_rfl
              have E124 : ∀ x, (aF x).eval (.tmp 124) = .slice qi ln di := by intro x; rw [hAF]; kernel_rfl
              have T125 : ∀ x, (aF x).tmps[125]? = some (.slice q' m d') := by intro x; rw [hAF]; kernel_rfl
              have E125 : ∀ x, (aF x).eval (.tmp 125) = .slice q' m d' := by intro x; rw [hAF]; kernel_rfl
              have T126 : ∀ x, (aF x).tmps[126]? = some (.nilIface) := by intro x; rw [hAF]; kernel_rfl
              have E126 : ∀ x, (aF x).eval (.tmp 126) = .nilIface := by intro x; rw [hAF]; kernel_rfl
              have T127 : ∀ x, (aF x).tmps[127]? = some (.bool false) := by intro x; rw [hAF]; kernel_rfl
              have E127 : ∀ x, (aF x).eval (.tmp 127) = .bool false := by intro x; rw [hAF]; kernel_rfl
              have T128 : ∀ x, (aF x).tmps[128]? = some (.bool false) := by intro x; rw [hAF]; kernel_rfl
              have E128 : ∀ x, (aF x).eval (.tmp 128) = .bool false := by intro x; rw [hAF]; kernel_rfl
              replace hAF := Lib.hid hAF
              refine ⟨?_, ?_, ?_, ?_, ?_, ?_, ?_, ?_, ?_, ?_, ?_, ?_, ?_, ?_, ?_, trivial⟩
              · exact opOk3_quiet _ (by intro x t hd _; cases hd; exact T114 x) (fun _ => rfl) fun x d w' hd hc => sv (run_mov rfl (E18 x)) hc
              · exact opOk3_quiet _ (by intro x t hd _; cases hd; exact T115 x) (fun _ => rfl) fun x d w' hd hc => sv (run_neqE rfl (E114 x)) hc
              · exact opOk3_quiet _ (by intro x t hd _; cases hd; exact T116 x) (fun _ => rfl) fun x d w' hd hc => sv (run_mov rfl (E115 x)) hc
              · exact opOk3_quiet _ (by intro x t hd _; cases hd; exact T117 x) (fun x => wanted_ofP rfl rfl (T116 x)) fun x d w' hd hc => sv (run_mov rfl (E1 x)) hc
              · exact opOk3_quiet _ (by intro x t hd _; cases hd; exact T118 x) (fun x => wanted_ofP rfl rfl (T116 x)) fun x d w' hd hc => sv (run_mov rfl (E15 x)) hc
              · exact opOk3_quiet _ (by intro x t hd _; cases hd; exact T119 x) (fun x => wanted_ofP rfl rfl (T116 x)) fun x d w' hd hc => sv (run_ixVe rfl (E117 x) (E118 x) hlt) hc
              · exact opOk3_quiet _ (by intro x t hd _; cases hd; exact T120 x) (fun x => wanted_ofP rfl rfl (T116 x)) fun x d w' hd hc => sv (run_load1 rfl (E119 x) (hlv.out _ hc)) hc
              · exact opOk3_quiet _ (by intro x t hd _; cases hd; exact T121 x) (fun x => wanted_ofP rfl rfl (T116 x)) fun x d w' hd hc => sv (run_mov rfl (E7 x)) hc
              · exact opOk3_quiet _ (by intro x t hd _; cases hd; exact T122 x) (fun x => wanted_ofP rfl rfl (T116 x)) fun x d w' hd hc => sv (run_mov rfl (E15 x)) hc
              · exact opOk3_quiet _ (by intro x t hd _; cases hd; exact T123 x) (fun x => wanted_ofP rfl rfl (T116 x)) fun x d w' hd hc => sv (run_ixRs rfl (E121 x) (E122 x) hlt) hc
              · exact opOk3_quiet _ (by intro x t hd _; cases hd; exact T124 x) (fun x => wanted_ofP rfl rfl (T116 x)) fun x d w' hd hc => sv (run_load1 rfl (E123 x) (hcw.out _ hc)) hc
              · exact opOk3_quiet _ (by intro x t hd _; cases hd; exact T125 x) (fun x => wanted_ofP rfl rfl (T116 x)) fun x d w' hd hc => sv (run_mov rfl (E2 x)) hc
              · exact opOk3_quiet _ (by intro x t hd _; cases hd; exact T126 x) (fun x => wanted_ofP rfl rfl (T116 x)) fun x d w' hd hc => sc (run_callChk rfl (E120 x) (E124 x) (E125 x)) ((hck.out w' hc).mono (fun e w'' hq => ⟨hq.1, hc.after hq.2⟩))
              · exact opOk3_quiet _ (by intro x t hd _; cases hd; exact T127 x) (fun x => wanted_ofP rfl rfl (T116 x)) fun x d w' hd hc => sv (run_neqN rfl (E126 x)) hc
              · exact opOk3_quiet _ (by intro x t hd _; cases hd; exact T128 x) (fun _ => rfl) fun x d w' hd hc => sv (run_pickF rfl (E116 x) (E127 x)) hc
            · intro x d1 w2 hd2 hc2
              simp only [putAll, List.foldl_cons, List.foldl_nil, Act.put, List.setIfInBounds_toArray, List.set_cons_succ, List.set_cons_zero]
              clear hd2 hc hlv hcw htm hck
              have hc3 := hv3.out w2 hc2
              have hm9 := Lib.hid (hm4.out.trans hc2)
              have hp3 := p3
              generalize V 3 = v3 at *
              have sA : IntKind.i64.wrap (totK fl rows t i + en) = totK fl rows t i + en := IntWalk.i64_in _ (by have := htk; omega)
              have sB : IntKind.i64.wrap (totK fl rows t i + en - v3) = totK fl rows t (i + 1) := by rw [hnx.out, ← Int.add_sub_assoc]; exact IntWalk.i64_in _ (by have := htk; omega)
              rw [← addr_add_add, addr_three] at hc3
              go_wp2_with fail
              go_roundw
              case rel => exact ⟨i + 1, by omega, by simp, rfl, hm9.out⟩
              case measure => simp [intOf]; omega
        · obtain rfl : i = n := by omega
          have hbw := Lib.hid (hb.out.trans (hm4.below hb.out.size (fun _ h => h.elim)))
          have hPw := hP1.out.below hbw.out
          have hto := hPw.totalE (z := totK fl rows t i) (by unfold totP; rw [hn.out])
          have hEB := Lib.hid (els_modP hEA.out hm4 (fun _ _ _ h => h))
          replace hPw := Lib.hid hPw
          clear hm4 hEA hRI hEl hF1 hT1 hP1
          go_wp2_with fail
          refine hto.mono ?_
          clear hto
          rintro e w5 ⟨rfl, hb5⟩
          replace hPw := Lib.hid (hPw.out.below hb5)
          replace hEB := Lib.hid (hEB.out.below hb5)
          replace hbw := Lib.hid (hbw.out.trans (hb5.mono hbw.out.size))
          have hal := hPw.out.all hN
          rw [← hAQ.out] at hal
          unfold AqPost at hal
          clear hb5
          go_wp2_with fail
          refine hal.mono ?_
          clear hal
          rintro e w6 ⟨⟨qA, dA, rfl, _, hA, _⟩, hb6⟩
          have hin := Lib.hid (rints_E q9 qA d9 dA (alK rows m) w6 (hEB.out.below hb6) hA)
          replace hbw := Lib.hid (hbw.out.trans (hb6.mono hbw.out.size))
          clear hb6 hA
          go_wp2_with fail
          refine hin.out.mono ?_
          rintro e w7 ⟨rfl, hb7⟩
          replace hbw := Lib.hid (hb1.out.trans ((hbw.out.trans (hb7.mono hbw.out.size)).mono hb1.out.size))
          clear hb7 hin
          go_wp2_with fail
          go_ret
          exact ⟨rfl, hbw.out⟩
end Go.Proofs.YtdmnoogppmckaaaGreat
