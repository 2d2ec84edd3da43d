/-
  Layer 18 (msg): within, told, rise.
-/
import Derived.Test.YtcipdimnbleljaaMv
import Derived.Test.YtcipdimnbleljaaLd
import Derived.Test.YtcipdimnbleljaaMk
import Derived.Outline
import Derived.Deep.QuietTactic
import Derived.BigQuiet
import Derived.IntWalk
import Derived.Deep.DeepCutAuto
namespace Go.Proofs.Ytcipdimnbleljaa
open Go.RowKit
open Extern.Stop (cell)

theorem within_calls (n m : Int) (w : World) :
    Calls Try.prog 31 #[.int .i64 n, .int .i64 m] w fun e w' => e = .returned (.bool (inB n m)) ∧ w = w' := by
  unfold inB
  by_cases h0 : 0 ≤ n
  · by_cases h1 : n < m
    · rw [decide_eq_true (⟨h0, h1⟩ : 0 ≤ n ∧ n < m)]
      go_enter Try.func31, Try.ntmps31
      go_wp2
      go_ret
      exact ⟨rfl, rfl⟩
    · rw [decide_eq_false (show ¬ (0 ≤ n ∧ n < m) by omega)]
      go_enter Try.func31, Try.ntmps31
      go_wp2
      go_ret
      exact ⟨rfl, rfl⟩
  · rw [decide_eq_false (show ¬ (0 ≤ n ∧ n < m) by omega)]
    go_enter Try.func31, Try.ntmps31
    go_wp2
    go_ret
    exact ⟨rfl, rfl⟩

theorem told_calls (s o p : Int) (w : World) :
    Calls Try.prog 39 #[.agg #[.int .i64 s, .int .i64 o, .int .u64 p]] w fun e w' => e = .returned (.bool (toldB s o p)) ∧ Below w.heap.size w w' := by
  have hb := (Below.refl w.heap.size w).alloc (Nat.le_refl _) (.cells #[.int .i64 s, .int .i64 o, .int .u64 p] 40)
  have hw := fun w => Lib.hid (within_calls o 8 w)
  unfold toldB
  by_cases h2 : s = 2
  · subst h2
    rw [if_pos (.inl rfl)]
    generalize inB o 8 = q at hw ⊢
    go_enter Try.func39, Try.ntmps39
    go_wp2_with fail
    refine (hw _).out.mono ?_
    rintro e w1 ⟨rfl, rfl⟩
    cases q
    · go_wp2
      go_ret
      exact ⟨rfl, hb⟩
    · go_wp2
      go_ret
      exact ⟨rfl, hb⟩
  · by_cases h4 : s = 4
    · subst h4
      rw [if_pos (.inr rfl)]
      generalize inB o 8 = q at hw ⊢
      go_enter Try.func39, Try.ntmps39
      go_wp2_with fail
      refine (hw _).out.mono ?_
      rintro e w1 ⟨rfl, rfl⟩
      cases q
      · go_wp2
        go_ret
        exact ⟨rfl, hb⟩
      · go_wp2
        go_ret
        exact ⟨rfl, hb⟩
    · rw [if_neg (by omega)]
      clear hw
      have he := fun w => eql_outcome w s o p 3 (-1) 0
      have i2 : (s == (2 : Int)) = false := by simpa using h2
      have i4 : (s == (4 : Int)) = false := by simpa using h4
      go_enter Try.func39, Try.ntmps39
      go_wp2_with fail
      go_ret
      exact ⟨(show _ = Ending.returned (.bool _) from rfl).trans (by simp [Bool.decide_and]), hb⟩

theorem riseB_snoc (l : List (Int × List UInt8)) (x : Int × List UInt8) :
    riseB (l ++ [x]) = (riseB l && (inB x.1 8 && (match l.getLast? with | none => true | some y => decide (y.1 < x.1)))) := by
  induction l with
  | nil => simp [riseB]
  | cons y r ih =>
    cases r with
    | nil => simp [riseB]; cases inB y.1 8 <;> simp [Bool.and_comm]
    | cons z r =>
      have e : riseB (y :: z :: r ++ [x]) = (inB y.1 8 && decide (y.1 < z.1) && riseB (z :: r ++ [x])) := rfl
      rw [e, ih, riseB]
      simp [Bool.and_assoc]
theorem riseB_take {l : List (Int × List UInt8)} {k : Nat} (h : riseB (l.take k) = false) : riseB l = false := by
  induction l generalizing k with
  | nil => simpa using h
  | cons y r ih =>
    cases k with
    | zero => simp [riseB] at h
    | succ k =>
      cases r with
      | nil => simpa [riseB] using h
      | cons z r =>
        cases k with
        | zero => simp [riseB] at h; simp [riseB, h]
        | succ k =>
          simp only [List.take_succ_cons, riseB] at h
          by_cases h1 : riseB (z :: List.take k r) = false
          · have := ih (k := k + 1) (by simpa using h1)
            simp [riseB, this]
          · have h1' : riseB (z :: List.take k r) = true := by simpa using h1
            rw [h1', Bool.and_true] at h
            simp only [riseB, h, Bool.false_and]


theorem riseB_step {l : List (Int × List UInt8)} {k : Nat} (x : Int × List UInt8) (hk : l[k]? = some x) (h : riseB (l.take k) = true) :
    riseB (l.take (k + 1)) = (inB x.1 8 && (if k = 0 then true else decide ((l.getD (k - 1) (0, [])).1 < x.1))) := by
  have hlt := (List.getElem?_eq_some_iff.1 hk).1
  rw [List.take_succ_eq_append_getElem hlt, riseB_snoc, h, (List.getElem?_eq_some_iff.1 hk).2]
  cases k with
  | zero => simp
  | succ k =>
    rw [List.getLast?_take, if_neg (by omega)]
    simp [List.getD_eq_getElem?_getD, List.getElem?_eq_getElem (show k < l.length by omega)]

theorem below_drewN {B : Nat} {a w : World} (h : Below B a w) (n : Nat) : Below B a (w.drewN n) := ⟨h.os, h.tape, h.output, h.size, h.block⟩

set_option maxHeartbeats 2000000 in
set_option maxRecDepth 100000 in
theorem rise_calls (m : MV) (w : World) (hM : MarksAt w m) :
    Calls Try.prog 38 #[.slice m.p m.ms.length m.cap] w fun e w' => e = .returned (.bool (riseB m.ms)) ∧ Below w.heap.size w w' := by
  have hbig := hM.big
  cases hp : m.p with
  | none =>
    have hn := hM.nil hp
    rw [hn]
    go_enter Try.func38, Try.ntmps38
    go_wp2_with fail
    refine wp_loop_rounds 1 ?_
    rw [rounds_succ]; go_wp2_with fail
    go_ret
    exact ⟨rfl, Below.refl _ _⟩
  | some a =>
    have hw : ∀ x w, Hid (Calls Try.prog 31 #[.int .i64 x, .int .i64 8] w fun e w' => e = .returned (.bool (inB x 8)) ∧ w = w') := fun x w => Lib.hid (within_calls x 8 w)
    have HM := Lib.hid hM
    have HP := Lib.hid hp
    clear hM hp
    go_enter Try.func38, Try.ntmps38
    go_wp2_with fail
    go_loopw [7] (fun i wr => ∃ k : Nat, k ≤ m.ms.length ∧ i = .int .i64 k ∧ riseB (m.ms.take k) = true ∧ Below w.heap.size w wr) (fun i _ => m.ms.length - (intOf i).toNat)
    case atStart => exact ⟨0, Nat.zero_le _, rfl, rfl, Below.refl _ _⟩
    case round =>
      obtain ⟨k, hk, rfl, hrise, hbw⟩ := hrel
      have HR := Lib.hid hrise
      clear hrise
      by_cases hlt : k < m.ms.length
      · have hkx : m.ms[k]? = some m.ms[k] := List.getElem?_eq_getElem hlt
        have hload := (HM.out.mod ((Mod.refl (fun _ => False) w).after hbw) (by simp)).row HP.out hkx
        have HL := Lib.hid hload
        clear hload
        have hsz : (Try.prog.info? 65).map (·.size) = some (markRow m.ms[k]).length := by
          rw [markRow_length _ (HM.out.len _ (List.getElem_mem hlt))]; kernel_rfl
        have HS := Lib.hid hsz
        clear hsz
        have HI := Lib.hid (show (mkZero.cells).size = (markRow m.ms[k]).toArray.size by simp [markRow_length _ (HM.out.len _ (List.getElem_mem hlt))]; rfl)
        have HT := Lib.hid (riseB_step m.ms[k] hkx HR.out)
        obtain ⟨wo, hwo⟩ : ∃ wo, wo = wr.alloc (.cells (markRow m.ms[k]).toArray 65) := ⟨_, rfl⟩
        have k0 : wo.cell? ⟨wr.heap.size, 0, none⟩ = some (.int .i64 (m.ms[k]).1) := by rw [hwo]; exact (Blk.new wr (markRow m.ms[k]).toArray 65).cell (i := 0) (by simp [markRow])
        have hbo : Below w.heap.size w wo := by rw [hwo]; exact hbw.alloc hbw.size _
        have kp : 0 < k → wo.cell? (a.add ((k - 1) * 33)) = some (.int .i64 (m.ms.getD (k - 1) (0, [])).1) := fun h => by
          have hk1 : m.ms[k - 1]? = some m.ms[k - 1] := List.getElem?_eq_getElem (by omega)
          have := ((HM.out.mod ((Mod.refl (fun _ => False) w).after (Below.mono hbo (Nat.le_refl _))) (by simp)).row HP.out hk1) 0 (.int .i64 m.ms[k - 1].1) rfl
          simpa [List.getD_eq_getElem?_getD, hk1, Addr.add_zero'] using this
        go_wp2_with (first | (refine wpList_load_at rfl 65 _ rfl (a.add (k * 33)) rfl (markRow m.ms[k]) _ HL.out Try.underlying65 rfl HS.out ?_) | (refine wpList_store_new rfl 65 _ _ rfl rfl rfl _ (markRow m.ms[k]).toArray _ rfl (by exact HI.out) (markRow_one _) HS.out ?_))
        rw [← hwo]
        clear hwo HL HS HI
        have hq := hw m.ms[k].1
        generalize inB m.ms[k].1 8 = q at hq HT
        cases q
        · go_quiet ((go_at_call 31; exact Calls.quiet_of_same ((hq _).out.mono fun _ _ h => ⟨h.1, h.2.symm⟩)))
          go_wp2
          go_ret
          exact ⟨by rw [riseB_take (k := k + 1) (by rw [HT.out]; rfl)]; rfl, below_drewN hbo _⟩
        · by_cases h0 : 0 < k
          · have hk0 : decide ((k : Int) > 0) = true := decide_eq_true (by omega)
            have kq := kp h0
            clear kp
            rw [if_neg (by omega)] at HT
            generalize (m.ms.getD (k - 1) (0, [])).1 = y at kq HT
            have hi1 : IntKind.i64.wrap ((k : Int) - 1) = ((k - 1 : Nat) : Int) := by
              rw [show (k : Int) - 1 = ((k - 1 : Nat) : Int) by omega]; exact IntWalk.i64_in _ (by omega)
            have hi2 : (0 : Int) ≤ ((k - 1 : Nat) : Int) := by omega
            have hi3 : ((k - 1 : Nat) : Int) < (m.ms.length : Int) := by omega
            have hi4 : (((k - 1 : Nat) : Int)).toNat = k - 1 := by omega
            go_quiet ((go_at_call 31; exact Calls.quiet_of_same ((hq _).out.mono fun _ _ h => ⟨h.1, h.2.symm⟩)))
            clear hi1 hi2 hi3 hi4
            by_cases hle : m.ms[k].1 ≤ y
            · go_wp2
              go_ret
              exact ⟨by rw [riseB_take (k := k + 1) (by rw [HT.out]; simp; omega)]; rfl, below_drewN hbo _⟩
            · go_wp2
              go_roundw
              case rel => exact ⟨k + 1, by omega, by go_num, by rw [HT.out]; simp; omega, below_drewN hbo _⟩
              case measure => simp [intOf]; omega
          · obtain rfl : k = 0 := by omega
            have hk0 : decide (((0 : Nat) : Int) > 0) = false := rfl
            clear kp
            go_quiet ((go_at_call 31; exact Calls.quiet_of_same ((hq _).out.mono fun _ _ h => ⟨h.1, h.2.symm⟩)))
            go_wp2
            go_roundw
            case rel => exact ⟨1, by omega, rfl, by rw [HT.out]; rfl, below_drewN hbo _⟩
            case measure => simp [intOf]; omega
      · obtain rfl : k = m.ms.length := by omega
        go_wp2
        go_ret
        have := HR.out
        rw [List.take_length] at this
        exact ⟨by rw [this]; rfl, hbw⟩
end Go.Proofs.Ytcipdimnbleljaa
