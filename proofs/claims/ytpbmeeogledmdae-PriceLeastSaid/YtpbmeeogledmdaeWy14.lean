/-
  Layer 14: the program's search by hand (price.least), of two vehicles with nothing to do: whether these may be.
-/
import Derived.Test.YtpbmeeogledmdaePl14
import Derived.Test.YtpbmeeogledmdaeFcw
namespace Go.Proofs.Ytpbmeeogledmdae
open Go.RowKit

def no2 : List (List Value) := [[.slice none 0 0], [.slice none 0 0]]
theorem no2_cell {w wx : World} {a : Addr} (h : Els w (some a) 1 no2) (hm : Mod (fun _ => False) w wx) {i : Nat} (hi : i < 2) : wx.cell? (a.add i) = some (.slice none 0 0) := by
  have h1 := (els_modP h hm (fun _ _ _ h => h)).cells a rfl i [.slice none 0 0] 0 (.slice none 0 0) (by
    match i, hi with
    | 0, _ => rfl
    | 1, _ => rfl) rfl
  simpa using h1
theorem exec_insU {P : Program} {ρ : Operand → Value} {o : Oper} {w w' : World} {x y z : Operand} {t : TypeId} {b : Nat} {i v : Int} (ho : o.op = .insert t x y z) (hx : ρ x = .map (some b)) (hy : ρ y = .int .i64 i) (hz : ρ z = .int .i64 v)
    (hrun : (Instr.mapUpdate t (.map (some b)) (.int .i64 i) (.int .i64 v)).run P w = .ok () w') : (execOp ρ o).run P w = .ok .skip w' := by
  simp [execOp, ho, hx, hy, hz, hrun, Result.andThen]
set_option maxHeartbeats 4000000 in
set_option maxRecDepth 100000 in
theorem pmay_calls (q r q' : Option Addr) (d dr d' : Nat) (F : List Ve) (T : List Rq) (req : Int) (w : World) (hF : Els w q 5 (F.map veR)) (h2 : F.length = 2) (hr : Els w r 1 no2) (hT : Els w q' 10 (T.map rqV)) (hTl : T.length ≤ 1000)
    (hq : 0 ≤ req ∧ req < (T.length : Int)) (hR : ∀ i, i < 2 → RightV (F.getD i ve0) [] T) :
    Calls Try.prog 57 #[.slice q 2 d, .slice r 2 dr, .slice q' T.length d', .int .i64 req] w fun e w' => e = .returned (.bool true) ∧ Below w.heap.size w w' := by
  have hq0 : ¬ req < 0 := by omega
  have hq1 : ¬ (T.length : Int) ≤ req := by omega
  obtain ⟨aV, rfl⟩ := hF.some_of (k := 0) (by simp; omega)
  obtain ⟨aR, rfl⟩ := hr.some_of (k := 0) (by decide)
  have hlv := Lib.hid (fun wx (h : Mod (fun _ => False) w wx) (i : Nat) (hi : i < 2) => (show (loadVar 47 (aV.add (i * 5))).run Try.prog wx = .ok (.agg (veR (F.getD i ve0)).toArray) wx from by
    have hiF : i < F.length := by omega
    have := (els_modP hF h (fun _ _ _ h => h)).load (P := Try.prog) (a := aV) rfl (k := i) (by simpa using hiF) (ty := 47) Try.underlying47 rfl (by kernel_rfl)
    rw [List.getElem_map] at this
    rw [List.getD_eq_getElem?_getD, List.getElem?_eq_getElem hiF]
    exact this))
  have hcr := Lib.hid (fun wx (h : Mod (fun _ => False) w wx) (i : Nat) (hi : i < 2) => run_cellSt (no2_cell hr h hi))
  have hfc := Lib.hid (fun wx (h : Mod (fun _ => False) w wx) (i : Nat) (hi : i < 2) => (show Calls Try.prog 12 #[.agg (veR (F.getD i ve0)).toArray, .slice none 0 0, .slice q' T.length d'] wx fun e w' => e = .returned .nilIface ∧ Below wx.heap.size wx w' from
    (fcheck_calls (F.getD i ve0 0) (F.getD i ve0 1) (F.getD i ve0 2) (F.getD i ve0 3) (F.getD i ve0 4) none q' 0 d' [] T wx (els_nilP _ _ _) (els_modP hT h (fun _ _ _ h => h))).mono fun e w' h => ⟨h.1 ((fsB_iff _ _ _ _ _ _ _).2 (hR i hi)), h.2.2⟩))
  have hwfq : wf64 req := by unfold wf64; omega
  clear hF hr hT hR
  have hmm := @run_makeMap Try.prog
  go_enter Try.func57, Try.ntmps57
  go_upto_region 3 with fail
  obtain ⟨w1, hrun, _, hm1⟩ := (MapV.new Try.prog 3 3 w).update Try.underlying3 Try.underlying3 Try.underlying74 (by unfold maxLen; omega) hwfq (v := -1) ⟨by omega, by omega⟩
  have hb1 : Hid (Mod (fun _ => False) w w1) := Lib.hid (((Mod.refl (fun _ => False) w).alloc _).step (T := (· = w.heap.size)) hm1 (fun r hr hT => by omega))
  clear hm1 hq hwfq
  replace hrun := Lib.hid hrun
  go_upto_region 4 with (refine wpList_sw rfl rfl (exec_insU rfl rfl rfl rfl hrun.out) ?_)
  clear hmm hrun
  go_wp2_with fail
  go_loopw [46] (fun s46 wx => ∃ i : Nat, i ≤ 2 ∧ s46 = .int .i64 i ∧ Mod (fun _ => False) w wx) (fun s46 _ => 2 - (intOf s46).toNat)
  case atStart => exact ⟨0, Nat.zero_le _, rfl, hb1.out⟩
  case round =>
    clear hb1
    obtain ⟨i, hi, rfl, hm⟩ := hrel
    by_cases hlt : i < 2
    · have hltI : (i : Int) < 2 := by omega
      have hi0 : (0 : Int) ≤ (i : Int) := by omega
      have s1 : IntKind.i64.wrap ((i : Int) + 1) = (i : Int) + 1 := IntWalk.i64_in _ (by omega)
      have hcw := Lib.hid (hcr.out _ hm i hlt)
      have hvw := Lib.hid (hlv.out _ hm i hlt)
      have hfw := Lib.hid (hfc.out _ hm i hlt)
      generalize (veR (F.getD i ve0)).toArray = V at *
      replace hm := Lib.hid hm
      go_wp2_with (first | (refine wpList_load_v rfl 48 _ rfl (aR.add i) rfl _ hcw.out ?_) | (refine wpList_load_v rfl 47 _ rfl (aV.add (i * 5)) rfl _ hvw.out ?_))
      refine hfw.out.mono ?_
      rintro e w2 ⟨rfl, hb2⟩
      have hm2 := Lib.hid (hm.out.after hb2)
      clear hfw hcw hvw hm hb2
      go_wp2_with fail
      go_loopw [61] (fun s61 wx => s61 = .int .i64 0 ∧ Mod (fun _ => False) w wx) (fun _ _ => 0)
      case atStart => exact ⟨rfl, hm2.out⟩
      case round =>
        clear hm2
        obtain ⟨rfl, hm⟩ := hrel
        go_wp2_with fail
        go_roundw
        case rel => exact ⟨i + 1, by omega, by simp, hm⟩
        case measure => simp [intOf]; omega
    · obtain rfl : i = 2 := by omega
      have hb9 := Lib.hid (hm.below (B := w.heap.size) (Nat.le_refl _) (fun _ h => h.elim))
      clear hm
      go_wp2_with fail
      go_ret
      exact ⟨rfl, hb9.out⟩
set_option maxHeartbeats 1000000 in
set_option maxRecDepth 100000 in
/-- a request that there is not -/
theorem pmay_no (q r q' : Option Addr) (d dr d' : Nat) (w : World) : Calls Try.prog 57 #[.slice q 2 d, .slice r 2 dr, .slice q' 2 d', .int .i64 2] w fun e w' => e = .returned (.bool false) ∧ Below w.heap.size w w' := by
  go_enter Try.func57, Try.ntmps57
  go_wp2
  go_ret
  exact ⟨rfl, Below.refl _ _⟩
end Go.Proofs.Ytpbmeeogledmdae
