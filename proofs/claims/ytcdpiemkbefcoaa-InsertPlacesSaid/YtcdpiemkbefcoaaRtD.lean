/-
  The document's layer 6: Check, walked.
-/
import Derived.Test.YtcdpiemkbefcoaaRtR
import Derived.Deep.CutRange
namespace Go.Proofs.Ytcdpiemkbefcoaa
open Go.RowKit

section
variable {ρ : Operand → Value} {o : Oper} {w : World} {x y : Operand}
theorem run_eqc {n k : Int} (ho : o.op = .binOp .eql 3 x (.const (.int .i64 k)) 3) (hx : ρ x = .int .i64 n) (hc : ∀ v, ρ (.const v) = v) : (execOp ρ o).run Try.prog w = .ok (.value (.bool (n == k))) w := by
  unfold execOp
  simp only [ho, hx, hc]
  go_simp
theorem run_nec {n k : Int} (ho : o.op = .binOp .neq 3 x (.const (.int .i64 k)) 3) (hx : ρ x = .int .i64 n) (hc : ∀ v, ρ (.const v) = v) : (execOp ρ o).run Try.prog w = .ok (.value (.bool (n != k))) w := by
  unfold execOp
  simp only [ho, hx, hc]
  go_simp
theorem run_pick2 {v d : Value} (ho : o.op = .pick x y (.const d)) (hx : ρ x = .bool true) (hy : ρ y = v) : (execOp ρ o).run Try.prog w = .ok (.value v) w := by
  unfold execOp
  simp only [ho, hx, hy]
  go_simp
theorem run_slS {a : Addr} {n cap k : Nat} (hk : k ≤ n ∧ n ≤ cap ∧ cap ≤ 9223372036854775807) (ho : o.op = .slice 29 x none (some y) none) (hx : ρ x = .slice (some a) n cap) (hy : ρ y = .int .i64 k) :
    (execOp ρ o).run Try.prog w = .ok (.value (.slice (some a) k cap)) w := by
  have h1 : (k : Int) ≤ (cap : Int) := by omega
  have h2 : (0 : Int) ≤ (k : Int) := by omega
  unfold execOp
  simp only [ho, hx, Option.map_some, hy]
  go_simp
theorem run_callcnt {l : Value} {s : Array Value} (ho : o.op = .call { callee := .value (.func 104), args := #[x, y], argTypes := #[29, 55] }) (hx : ρ x = l) (hy : ρ y = .agg s)
    (hf : ρ (.func 104) = .func (.func 104) #[] #[]) : (execOp ρ o).run Try.prog w = .ok (.enter 104 #[l, .agg s]) w := by
  unfold execOp
  simp only [ho]
  go_simp
end
theorem wanted_of {ops : Array Oper} {o : Oper} {ts : Array Value} {j : Nat} {b : Bool} {d : Nat} (hg : o.guard = some (j, b)) (hd : dstOf ops j = some d) (hv : ts[d]? = some (.bool b)) : Region.wanted o (yielded ops ts) = true := by
  unfold Region.wanted yielded
  unfold dstOf at hd
  simp only [hg, hd, Option.bind_some, hv, beq_self_eq_true]
/-- may a stop of a row not stand where it is? -/
def badS (l : List (Int × Int)) (k : Nat) (s : Int × Int) : Prop :=
  s.1 < 0 ∨ s.2 < 0 ∨ 2 ≤ s.2 ∨ l.count (s.1, 0) ≠ 1 ∨ l.count (s.1, 1) ≠ 1 ∨ (s.2 = 1 ∧ (l.take k).count (s.1, 0) ≠ 1)
open Classical in
/-- what the document's Check answers -/
noncomputable def chkD (l : List (Int × Int)) : Int := if 16 < l.length then 11 else if ∃ k s, l[k]? = some s ∧ badS l k s then 8 else 0
set_option maxHeartbeats 4000000 in
set_option maxRecDepth 100000 in
theorem rcheck_ref (p : Option Addr) (cap : Nat) (l : List (Int × Int)) (w : World) (hE : Els w p 2 (l.map stV)) (hcap : l.length ≤ cap ∧ cap ≤ 9223372036854775807) :
    Calls Try.prog 98 #[.slice p l.length cap] w fun e w' => e = .returned (.int .i64 (chkD l)) ∧ Below w.heap.size w w' := by
  by_cases h16 : 16 < l.length
  · have hX : chkD l = 11 := if_pos h16
    rw [hX]
    have hi : (16 : Int) < (l.length : Int) := by omega
    go_enter Try.func98, Try.ntmps98
    go_wp2
    go_ret
    exact ⟨rfl, Below.refl _ _⟩
  · have hbad : ∀ k s, l[k]? = some s → badS l k s → chkD l = 8 := fun k s h1 h2 => (if_neg h16).trans (if_pos ⟨k, s, h1, h2⟩)
    have hgood : (∀ k s, l[k]? = some s → ¬ badS l k s) → chkD l = 0 := fun h => (if_neg h16).trans (if_neg (fun ⟨k, s, h1, h2⟩ => h k s h1 h2))
    generalize chkD l = X at hbad hgood
    have hi : ¬ (16 : Int) < (l.length : Int) := by omega
    replace hbad := Lib.hid hbad
    replace hgood := Lib.hid hgood
    replace hE := Lib.hid hE
    go_enter Try.func98, Try.ntmps98
    go_wp2_with fail
    go_loopw [3] (fun i wr => ∃ k : Nat, k ≤ l.length ∧ i = .int .i64 k ∧ Hid (∀ j s, j < k → l[j]? = some s → ¬ badS l j s) ∧ Below w.heap.size w wr) (fun i _ => l.length - (intOf i).toNat)
    case atStart => exact ⟨0, Nat.zero_le _, rfl, Lib.hid (fun j s h => by omega), Below.refl _ _⟩
    case round =>
      obtain ⟨k, hk, rfl, hR, hbr⟩ := hrel
      by_cases hlt : k < l.length
      · have hltI : (k : Int) < (l.length : Int) := by omega
        have hk0 : (0 : Int) ≤ (k : Int) := by omega
        have s1 : IntKind.i64.wrap ((k : Int) + 1) = (k : Int) + 1 := IntWalk.i64_in _ (by omega)
        obtain ⟨a, rfl⟩ := (hE.out.below hbr).some_of (k := k) (by simpa using hlt)
        have hla := Lib.hid ((hE.out.below hbr).load (P := Try.prog) (a := a) rfl (k := k) (by simpa using hlt) (ty := 55) Try.underlying55 rfl (by kernel_rfl))
        rw [List.getElem_map] at hla
        have hlk : l[k]? = some l[k] := List.getElem?_eq_getElem hlt
        obtain ⟨r, q, hs⟩ : ∃ r q, l[k] = (r, q) := ⟨_, _, rfl⟩
        rw [hs] at hla hlk
        have hB8 := hbad.out k (r, q) hlk
        unfold badS at hB8
        have hN := fun (h : ¬ badS l k (r, q)) j s (hj : j < k + 1) (hjs : l[j]? = some s) => (if e : j = k then by subst e; rw [hlk] at hjs; cases hjs; exact h else hR.out j s (by omega) hjs : ¬ badS l j s)
        unfold badS at hN
        have hc1 := Lib.hid (fun (v : Int) wx (h : Below w.heap.size w wx) => count_ref (some a) cap l r v wx (hE.out.below h))
        have hc3 := Lib.hid (fun wx (h : Below w.heap.size w wx) => (by
          have := count_ref (some a) cap (l.take k) r 0 wx (by rw [List.map_take]; exact (hE.out.below h).take k)
          rwa [List.length_take, Nat.min_eq_left (by omega)] at this : Calls Try.prog 104 #[.slice (some a) k cap, .agg #[.int .i64 r, .int .i64 0]] wx fun e w' => e = .returned (.int .i64 ((l.take k).count (r, 0))) ∧ Below wx.heap.size wx w'))
        have hkc : k ≤ l.length ∧ l.length ≤ cap ∧ cap ≤ 9223372036854775807 := ⟨hk, hcap⟩
        replace hB8 := Lib.hid hB8
        replace hN := Lib.hid hN
        clear hlk hs hR
        go_upto_region 7 with (first | (refine wpList_load_v rfl 55 _ rfl (a.add (k * 2)) rfl _ hla.out ?_) | (refine wpList_store_new rfl 55 _ _ rfl rfl rfl _ (stV (r, q)).toArray _ rfl rfl (stV_one _) (by kernel_rfl) ?_))
        refine wp_world' (fun wx => Blk wx wr.heap.size (stV (r, q)).toArray 55 ∧ Below w.heap.size w wx) ⟨Blk.new _ _ _, hbr.alloc hbr.size _⟩ ?_
        rintro w1 ⟨hS1, hb1⟩
        clear hla hbr
        generalize wr.heap.size = g4 at *
        have k0 : w1.cell? ⟨g4, 0, none⟩ = some (.int .i64 r) := hS1.cell (i := 0) rfl
        have HS1 := Lib.hid hS1
        have hg4 := hS1.lt
        clear hS1
        go_cut [5, 6] from 10 to 61 (fun s5 s6 wx => ∃ g5 g6, s5 = .pointer (some ⟨g5, 0, none⟩) ∧ s6 = .pointer (some ⟨g6, 0, none⟩) ∧ Blk wx g4 (stV (r, q)).toArray 55 ∧ Blk wx g5 #[.int .i64 r, .int .i64 0] 55 ∧ Blk wx g6 #[.int .i64 r, .int .i64 1] 55 ∧ Below w.heap.size w wx)
        case first =>
          go_region
          all_goals (go_wp2_with fail)
          all_goals (go_meet; first | exact ⟨w1.heap.size, w1.heap.size + 1, rfl, rfl, (HS1.out.alloc _).alloc _, (Blk.new _ _ _).alloc _, Blk.new' _ _ _ _, ((hb1.alloc hb1.size _).alloc (by simp; have := hb1.size; omega) _).drew⟩ | exact ⟨w1.heap.size + 1, w1.heap.size, rfl, rfl, (HS1.out.alloc _).alloc _, Blk.new' _ _ _ _, (Blk.new _ _ _).alloc _, ((hb1.alloc hb1.size _).alloc (by simp; have := hb1.size; omega) _).drew⟩)
        case rest =>
          obtain ⟨g5, g6, rfl, rfl, hS2, hP2, hD2, hb2⟩ := hcut
          clear HS1 hb1 k0
          have k0 : wc.cell? ⟨g4, 0, none⟩ = some (.int .i64 r) := hS2.cell (i := 0) rfl
          have k1 : wc.cell? ⟨g4, 1, none⟩ = some (.int .i64 q) := hS2.cell (i := 1) rfl
          have hl5 := Lib.hid (fun wx (h : Blk wx g5 #[.int .i64 r, .int .i64 0] 55) => run_load_row' (P := Try.prog) wx g5 55 #[.int .i64 r, .int .i64 0] 55 _ h Try.underlying55 rfl (by kernel_rfl))
          have hl6 := Lib.hid (fun wx (h : Blk wx g6 #[.int .i64 r, .int .i64 1] 55) => run_load_row' (P := Try.prog) wx g6 55 #[.int .i64 r, .int .i64 1] 55 _ h Try.underlying55 rfl (by kernel_rfl))
          have HS2 := Lib.hid hS2
          have HP2 := Lib.hid hP2
          have HD2 := Lib.hid hD2
          clear hS2 hP2 hD2
          by_cases c0 : r < 0
          · obtain rfl : X = 8 := hB8.out (.inl c0)
            clear hN hB8 hbad hgood
            go_wp2_with fail
            go_ret
            exact ⟨rfl, hb2⟩
          by_cases c1 : q < 0
          · obtain rfl : X = 8 := hB8.out (.inr (.inl c1))
            clear hN hB8 hbad hgood
            go_wp2_with fail
            go_ret
            exact ⟨rfl, hb2⟩
          by_cases c2 : q ≥ 2
          · obtain rfl : X = 8 := hB8.out (.inr (.inr (.inl c2)))
            clear hN hB8 hbad hgood
            go_wp2_with fail
            go_ret
            exact ⟨rfl, hb2⟩
          obtain ⟨n1, hn1⟩ : ∃ n : Nat, l.count (r, 0) = n := ⟨_, rfl⟩
          obtain ⟨n2, hn2⟩ : ∃ n : Nat, l.count (r, 1) = n := ⟨_, rfl⟩
          obtain ⟨n3, hn3⟩ : ∃ n : Nat, (l.take k).count (r, 0) = n := ⟨_, rfl⟩
          have hc2 := Lib.hid (hc1.out 1)
          replace hc1 := Lib.hid (hc1.out 0)
          simp only [hn1, hn2, hn3] at hB8 hN hc1 hc2 hc3
          clear hn1 hn2 hn3
          go_wp2_with (refine wpList_load_v (by rfl) 55 _ rfl ⟨g5, 0, none⟩ rfl _ (hl5.out _ HP2.out) ?_)
          refine (hc1.out _ hb2).mono ?_
          rintro e w3 ⟨rfl, hb3⟩
          have HS3 := Lib.hid (HS2.out.mod ((Mod.refl (fun _ => False) _).after hb3) (fun h => h))
          have HP3 := Lib.hid (HP2.out.mod ((Mod.refl (fun _ => False) _).after hb3) (fun h => h))
          have HD3 := Lib.hid (HD2.out.mod ((Mod.refl (fun _ => False) _).after hb3) (fun h => h))
          replace hb3 := hb2.trans (hb3.mono hb2.size)
          clear HS2 HP2 HD2 hb2 hc1 k0 k1
          by_cases c3 : n1 = 1
          · subst c3
            go_wp2_with (refine wpList_load_v (by rfl) 55 _ rfl ⟨g6, 0, none⟩ rfl _ (hl6.out _ HD3.out) ?_)
            refine (hc2.out _ hb3).mono ?_
            rintro e w4 ⟨rfl, hb4⟩
            have HS4 := Lib.hid (HS3.out.mod ((Mod.refl (fun _ => False) _).after hb4) (fun h => h))
            have HP4 := Lib.hid (HP3.out.mod ((Mod.refl (fun _ => False) _).after hb4) (fun h => h))
            replace hb4 := hb3.trans (hb4.mono hb3.size)
            clear HS3 HP3 HD3 hb3 hc2 hl6
            by_cases c4 : n2 = 1
            · subst c4
              have hq01 : q = 0 ∨ q = 1 := by omega
              clear c1 c2
              rcases hq01 with rfl | rfl
              · have hok : Hid (∀ j s, j < k + 1 → l[j]? = some s → ¬ badS l j s) := Lib.hid (hN.out (by simp; omega))
                clear hN hB8 hbad hgood
                have k1 : w4.cell? ⟨g4, 1, none⟩ = some (.int .i64 0) := HS4.out.cell (i := 1) rfl
                go_upto_region 10 with fail
                go_quiet (fail)
                go_wp2_with fail
                go_roundw
                case rel => exact ⟨k + 1, by omega, by simp, hok, below_drewN hb4 _⟩
                case measure => simp [intOf]; omega
              · go_upto_region 10 with fail
                refine wp_region_puts [] [(51, .pointer (some ⟨g4, 1, none⟩)), (52, .int .i64 1), (53, .bool true), (54, .bool true), (55, .slice (some a) l.length cap), (56, .int .i64 k), (57, .slice (some a) k cap), (58, .agg #[.int .i64 r, .int .i64 0]), (59, .int .i64 (n3 : Int)), (60, .bool ((n3 : Int) != 1)), (61, .bool ((n3 : Int) != 1))] (fun _ wx => Blk wx g4 (stV (r, 1)).toArray 55 ∧ Blk wx g5 #[.int .i64 r, .int .i64 0] 55 ∧ Below w.heap.size w wx) (by kernel_rfl) (by kernel_rfl) (by kernel_rfl) (by kernel_rfl) (by kernel_rfl) ⟨HS4.out.drew, HP4.out.drew, hb4.drew⟩ ?_ ?_
                · intro aF hAF
                  have T51 : aF.tmps[51]? = some (.pointer (some ⟨g4, 1, none⟩)) := by rw [← hAF]; kernel_rfl
                  have E51 : aF.eval (.tmp 51) = .pointer (some ⟨g4, 1, none⟩) := by rw [← hAF]; kernel_rfl
                  have T52 : aF.tmps[52]? = some (.int .i64 1) := by rw [← hAF]; kernel_rfl
                  have E52 : aF.eval (.tmp 52) = .int .i64 1 := by rw [← hAF]; kernel_rfl
                  have T53 : aF.tmps[53]? = some (.bool true) := by rw [← hAF]; kernel_rfl
                  have E53 : aF.eval (.tmp 53) = .bool true := by rw [← hAF]; kernel_rfl
                  have T54 : aF.tmps[54]? = some (.bool true) := by rw [← hAF]; kernel_rfl
                  have E54 : aF.eval (.tmp 54) = .bool true := by rw [← hAF]; kernel_rfl
                  have T55 : aF.tmps[55]? = some (.slice (some a) l.length cap) := by rw [← hAF]; kernel_rfl
                  have E55 : aF.eval (.tmp 55) = .slice (some a) l.length cap := by rw [← hAF]; kernel_rfl
                  have T56 : aF.tmps[56]? = some (.int .i64 k) := by rw [← hAF]; kernel_rfl
                  have E56 : aF.eval (.tmp 56) = .int .i64 k := by rw [← hAF]; kernel_rfl
                  have T57 : aF.tmps[57]? = some (.slice (some a) k cap) := by rw [← hAF]; kernel_rfl
                  have E57 : aF.eval (.tmp 57) = .slice (some a) k cap := by rw [← hAF]; kernel_rfl
                  have T58 : aF.tmps[58]? = some (.agg #[.int .i64 r, .int .i64 0]) := by rw [← hAF]; kernel_rfl
                  have E58 : aF.eval (.tmp 58) = .agg #[.int .i64 r, .int .i64 0] := by rw [← hAF]; kernel_rfl
                  have T59 : aF.tmps[59]? = some (.int .i64 (n3 : Int)) := by rw [← hAF]; kernel_rfl
                  have E59 : aF.eval (.tmp 59) = .int .i64 (n3 : Int) := by rw [← hAF]; kernel_rfl
                  have T60 : aF.tmps[60]? = some (.bool ((n3 : Int) != 1)) := by rw [← hAF]; kernel_rfl
                  have E60 : aF.eval (.tmp 60) = .bool ((n3 : Int) != 1) := by rw [← hAF]; kernel_rfl
                  have T61 : aF.tmps[61]? = some (.bool ((n3 : Int) != 1)) := by rw [← hAF]; kernel_rfl
                  have E61 : aF.eval (.tmp 61) = .bool ((n3 : Int) != 1) := by rw [← hAF]; kernel_rfl
                  have E0 : aF.eval (.tmp 0) = .slice (some a) l.length cap := by rw [← hAF]; kernel_rfl
                  have E3 : aF.eval (.tmp 3) = .int .i64 k := by rw [← hAF]; kernel_rfl
                  have E4 : aF.eval (.tmp 4) = .pointer (some ⟨g4, 0, none⟩) := by rw [← hAF]; kernel_rfl
                  have E5 : aF.eval (.tmp 5) = .pointer (some ⟨g5, 0, none⟩) := by rw [← hAF]; kernel_rfl
                  clear hAF
                  refine ⟨?_, ?_, ?_, ?_, ?_, ?_, ?_, ?_, ?_, ?_, ?_, trivial⟩
                  · exact opOk_quiet _ (by intro d hd _; cases hd; exact T51) rfl (by decide) fun _ w' hc => sv (run_fldT rfl E4 (fun w => by kernel_rfl)) hc
                  · exact opOk_quiet _ (by intro d hd _; cases hd; exact T52) rfl (by decide) fun _ w' hc => sv (run_load1 rfl E51 (run_i64 (hc.1.cell (i := 1) rfl))) hc
                  · exact opOk_quiet _ (by intro d hd _; cases hd; exact T53) rfl (by decide) fun _ w' hc => sv (run_eqc rfl E52 (fun _ => rfl)) hc
                  · exact opOk_quiet _ (by intro d hd _; cases hd; exact T54) rfl (by decide) fun _ w' hc => sv (run_mov rfl E53) hc
                  · exact opOk_quiet _ (by intro d hd _; cases hd; exact T55) (wanted_of rfl (by kernel_rfl) T54) (by decide) fun _ w' hc => sv (run_mov rfl E0) hc
                  · exact opOk_quiet _ (by intro d hd _; cases hd; exact T56) (wanted_of rfl (by kernel_rfl) T54) (by decide) fun _ w' hc => sv (run_mov rfl E3) hc
                  · exact opOk_quiet _ (by intro d hd _; cases hd; exact T57) (wanted_of rfl (by kernel_rfl) T54) (by decide) fun _ w' hc => sv (run_slS hkc rfl E55 E56) hc
                  · exact opOk_quiet _ (by intro d hd _; cases hd; exact T58) (wanted_of rfl (by kernel_rfl) T54) (by decide) fun _ w' hc => sv (run_load1 rfl E5 (hl5.out _ hc.2.1)) hc
                  · exact opOk_quiet _ (by intro d hd _; cases hd; exact T59) (wanted_of rfl (by kernel_rfl) T54) (by decide) fun _ w' hc => sc (run_callcnt rfl E57 E58 rfl) ((hc3.out w' hc.2.2).mono fun e w'' h => ⟨h.1, hc.1.mod ((Mod.refl (fun _ => False) _).after h.2) (fun h => h), hc.2.1.mod ((Mod.refl (fun _ => False) _).after h.2) (fun h => h), hc.2.2.trans (h.2.mono hc.2.2.size)⟩)
                  · exact opOk_quiet _ (by intro d hd _; cases hd; exact T60) (wanted_of rfl (by kernel_rfl) T54) (by decide) fun _ w' hc => sv (run_nec rfl E59 (fun _ => rfl)) hc
                  · exact opOk_quiet _ (by intro d hd _; cases hd; exact T61) rfl (by decide) fun _ w' hc => sv (run_pick2 rfl E54 E60) hc
                · intro w5 hc
                  simp only [putAll, List.foldl_cons, List.foldl_nil, Act.put, List.setIfInBounds_toArray, List.set_cons_succ, List.set_cons_zero]
                  obtain ⟨-, -, hb5⟩ := hc
                  by_cases c5 : n3 = 1
                  · subst c5
                    have hok : Hid (∀ j s, j < k + 1 → l[j]? = some s → ¬ badS l j s) := Lib.hid (hN.out (by simp; omega))
                    clear hN hB8 hbad hgood
                    go_wp2_with fail
                    go_roundw
                    case rel => exact ⟨k + 1, by omega, by simp, hok, hb5⟩
                    case measure => simp [intOf]; omega
                  · obtain rfl : X = 8 := hB8.out (.inr (.inr (.inr (.inr (.inr ⟨by simp, c5⟩)))))
                    clear hN hB8 hbad hgood
                    have c5I : ((n3 : Int) == 1) = false := beq_eq_false_iff_ne.2 (by omega)
                    have c5J : ((n3 : Int) != 1) = true := by rw [bne, c5I]; rfl
                    go_wp2_with fail
                    go_ret
                    exact ⟨rfl, hb5⟩
            · obtain rfl : X = 8 := hB8.out (.inr (.inr (.inr (.inr (.inl c4)))))
              clear hN hB8 hbad hgood
              have c4I : ((n2 : Int) == 1) = false := beq_eq_false_iff_ne.2 (by omega)
              have c4J : ((n2 : Int) != 1) = true := by rw [bne, c4I]; rfl
              go_wp2_with fail
              go_ret
              exact ⟨rfl, hb4⟩
          · obtain rfl : X = 8 := hB8.out (.inr (.inr (.inr (.inl c3))))
            clear hN hB8 hbad hgood
            have c3I : ((n1 : Int) == 1) = false := beq_eq_false_iff_ne.2 (by omega)
            have c3J : ((n1 : Int) != 1) = true := by rw [bne, c3I]; rfl
            go_wp2_with fail
            go_ret
            exact ⟨rfl, hb3⟩
      · obtain rfl : k = l.length := by omega
        obtain rfl : X = 0 := hgood.out (fun j s hj => hR.out j s (List.getElem?_eq_some_iff.1 hj).1 hj)
        clear hR hbad hgood
        go_wp2_with fail
        go_ret
        exact ⟨rfl, hbr⟩
end Go.Proofs.Ytcdpiemkbefcoaa
