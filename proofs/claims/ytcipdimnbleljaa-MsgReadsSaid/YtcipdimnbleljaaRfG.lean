/-
  The document's side of layer 18: Body of a call's message; of any.
-/
import Derived.Test.YtcipdimnbleljaaRfF
namespace Go.Proofs.Ytcipdimnbleljaa
open Go.RowKit
open Extern.Stop (cell)

theorem addS_size (ns : List (Int × Nat)) : ∀ s, (addS s ns).size = s.size + (ns.map (·.2)).sum := by
  induction ns with
  | nil => intro s; rfl
  | cons x r ih =>
    intro s
    show (addS (addN s x.1 x.2) r).size = _
    rw [ih, addN_size]
    simp only [List.map_cons, List.sum_cons]
    omega
theorem addS_app (s : ByteArray) (a b : List (Int × Nat)) : addS s (a ++ b) = addS (addS s a) b := List.foldl_append
theorem marksL_take {l : List (Int × List UInt8)} {k : Nat} (h : k < l.length) : marksL (l.take (k + 1)) = marksL (l.take k) ++ ((l[k].1, 1) :: ones l[k].2) := by
  unfold marksL
  rw [List.take_add_one, List.flatMap_append, List.getElem?_eq_getElem h]
  simp
theorem marksL_sum {l : List (Int × List UInt8)} (h : ∀ x ∈ l, x.2.length = 32) : ((marksL l).map (·.2)).sum = 33 * l.length := by
  induction l with
  | nil => rfl
  | cons x r ih =>
    have e : marksL (x :: r) = (x.1, 1) :: (ones x.2 ++ marksL r) := rfl
    have h1 : ((ones x.2).map (·.2)).sum = x.2.length := by
      unfold ones
      induction x.2 with
      | nil => rfl
      | cons b t ih => simp only [List.map_cons, List.sum_cons, List.length_cons]; rw [ih]; omega
    rw [e]
    simp only [List.map_cons, List.map_append, List.sum_cons, List.sum_append, List.length_cons]
    rw [ih (fun y hy => h y (by simp [hy])), h1, h x (by simp)]
    omega

set_option maxHeartbeats 2000000 in
set_option maxRecDepth 100000 in
theorem body3_calls (C : Array Value) (m : MV) (w : World) (hM : MsgOf C m) (hA : MarksAt w m) (hG : Good m) (hk : m.kind = 3) : Calls Try.prog 15 #[.agg C] w fun e w' => e = .returned (.string (bodyS m)) ∧ Below w.heap.size w w' := by
  have hR := nums_rg hG.may hG.rg
  have rr := hR (m.round, 1) (by unfold numsOf; exact List.mem_cons_self)
  have nr := Lib.hid (fun w => num_ref m.round 1 w ⟨rr.1, by have := rr.2; simp at this; omega⟩ (by omega))
  have hbody := body_addS m
  generalize bodyS m = BS at hbody
  go_enter Try.func15, Try.ntmps15
  go_upto_region 1 with fail
  refine wp_world' (fun wx => ClY C m w wx) ⟨Blk.new w C _, new_below _ _, marks_below hA (new_below _ _)⟩ ?_
  rintro w0 hc0
  have k1 := hc0.b.cell hM.h1
  go_wp2_with fail
  refine (nr.out _).mono ?_
  rintro e w1 ⟨rfl, hb1⟩
  have hc1 := hc0.below hb1
  have k0 := hc1.b.cell hM.h0
  rw [hk] at k0
  clear k1 hc0 hb1 nr
  obtain ⟨A0, hA0⟩ : ∃ X, strOfNums (be m.round 1) = X := ⟨_, rfl⟩
  have z0 : A0.size = 1 := by rw [← hA0, strOfNums_size, be_length]
  rw [hA0] at hbody ⊢
  have hsh : numsOf m = (m.round, 1) :: ((m.ms.length : Int), 1) :: marksL m.ms := by unfold numsOf marksL; rw [if_neg (by omega), if_neg (by omega), if_pos hk]
  have r1 := hR ((m.ms.length : Int), 1) (by rw [hsh]; simp)
  simp at r1
  have rm : ∀ k (h : k < m.ms.length), 0 ≤ m.ms[k].1 ∧ m.ms[k].1 < 256 := fun k h => by
    have := hR (m.ms[k].1, 1) (by rw [hsh]; simp only [List.mem_cons]; right; right; exact List.mem_flatMap.2 ⟨m.ms[k], List.getElem_mem h, by simp⟩)
    simpa using this
  have l1 := Lib.hid (fun w => num_ref (m.ms.length : Int) 1 w ⟨by omega, by omega⟩ (by omega))
  rw [show (numsOf m).tail = ((m.ms.length : Int), 1) :: marksL m.ms by rw [hsh]; rfl] at hbody
  replace hbody : BS = addS (A0 ++ strOfNums (be (m.ms.length : Int) 1)) (marksL m.ms) := hbody
  obtain ⟨A1, hA1⟩ : ∃ X, A0 ++ strOfNums (be (m.ms.length : Int) 1) = X := ⟨_, rfl⟩
  have z1 : A1.size = A0.size + 1 := by rw [← hA1, ByteArray.size_append, strOfNums_size, be_length]
  rw [hA1] at hbody
  have q1 : (strOfNums (be (m.ms.length : Int) 1)).size = 1 := by rw [strOfNums_size, be_length]
  have k47 := hc1.b.cell hM.h47
  generalize strOfNums (be (m.ms.length : Int) 1) = N1 at *
  have p1 : A0.size + N1.size ≤ 100 := by omega
  have hlen : m.ms.length < 256 := by omega
  have hlen2 : (m.ms.length : Int) < 256 := by omega
  clear rr r1 hR hA0 hA hsh
  go_wp2_with fail
  refine (l1.out _).mono ?_
  rintro e w2 ⟨rfl, hb2⟩
  have hc2 := hc1.below hb2
  clear k0 k47 hc1
  go_wp2_with fail
  go_loopw [3, 11] (fun s i wr => ∃ k : Nat, k ≤ m.ms.length ∧ i = .int .i64 k ∧ s = .string (addS A1 (marksL (m.ms.take k))) ∧ ClY C m w wr) (fun _ i _ => m.ms.length - (intOf i).toNat)
  case atStart => exact ⟨0, Nat.zero_le _, rfl, rfl, hc2⟩
  case round =>
    obtain ⟨k, hk2, rfl, rfl, hc⟩ := hrel
    by_cases hlt : k < m.ms.length
    · cases hp : m.p with
      | none => have := hc.ms.nil hp; rw [this] at hlt; simp at hlt
      | some a =>
        have hkx : m.ms[k]? = some m.ms[k] := List.getElem?_eq_getElem hlt
        have h32 := hc.ms.len _ (List.getElem_mem hlt)
        have hrow : ∀ j v, (markRow m.ms[k])[j]? = some v → wr.cell? ((a.add (k * 33)).add j) = some v := fun j v hj => hc.ms.row hp hkx j v hj
        have e1 : ∀ i, (a.add (k * 33)).add (i + 1) = ⟨a.block, a.off + k * 33 + 1 + i, none⟩ := fun i => by
          unfold Addr.add
          by_cases hk0 : k * 33 = 0
          · rw [if_pos hk0, if_neg (by omega), hk0]; simp only [Addr.mk.injEq, true_and, and_true]; omega
          · rw [if_neg hk0, if_neg (by omega)]; simp only [Addr.mk.injEq, true_and, and_true]; omega
        have cm : ∀ x : Later (fun _ => False) wr, x.val.cell? (a.add (k * 33)) = some (.int .i64 m.ms[k].1) := fun x => x.cell (by have := hrow 0 _ rfl; rwa [Addr.add_zero'] at this) (by simp)
        have hcv : ∀ x : Later (fun _ => False) wr, (convert 26 9 (.slice (some ((a.add (k * 33)).add 1)) 32 32)).run Try.prog x.val = .ok (.string (strOfNums (byN m.ms[k].2))) x.val := fun x => by
          rw [e1 0]
          exact dig_cvt m.ms[k].2 h32 (fun i hi => x.cell (by
            have := hrow (i + 1) (cell (m.ms[k].2.getD i 0)) (by
              unfold markRow
              have hi2 : i < m.ms[k].2.length := by omega
              simp [List.getD_eq_getElem?_getD, hi2])
            rw [e1 i] at this
            exact this) (by simp))
        have e2 : ∀ b : Addr, b.add 1 = ⟨b.block, b.off + 1, none⟩ := fun b => by unfold Addr.add; simp
        rw [e2] at hcv
        have c47 : ∀ x : Later (fun _ => False) wr, x.val.cell? ⟨w.heap.size, 47, none⟩ = some (.slice (some a) m.ms.length m.cap) := fun x => x.cell (by have := hc.b.cell hM.h47; rwa [hp] at this) (by simp)
        have hn := rm k hlt
        have ln := Lib.hid (fun w => num_ref m.ms[k].1 1 w ⟨hn.1, by omega⟩ (by omega))
        have hst : addS A1 (marksL (m.ms.take (k + 1))) = addS A1 (marksL (m.ms.take k)) ++ strOfNums (be m.ms[k].1 1) ++ strOfNums (byN m.ms[k].2) := by
          rw [marksL_take hlt, addS_app]
          show addS (addN _ _ _) (ones _) = _
          rw [addS_ones, addN]
        have zs : (addS A1 (marksL (m.ms.take k))).size = A1.size + 33 * k := by
          rw [addS_size, marksL_sum (fun x hx => hc.ms.len x (List.mem_of_mem_take hx)), List.length_take, Nat.min_eq_left (by omega)]
        have q2 : (strOfNums (be m.ms[k].1 1)).size = 1 := by rw [strOfNums_size, be_length]
        have q3 : (strOfNums (byN m.ms[k].2)).size = 32 := by rw [strOfNums_size, byN_length, h32]
        have hltI : (k : Int) < (m.ms.length : Int) := by omega
        have Hst := Lib.hid hst
        clear hst hrow hn h32 e1 e2
        generalize addS A1 (marksL (m.ms.take k)) = SK at *
        generalize strOfNums (be m.ms[k].1 1) = N2 at *
        generalize strOfNums (byN m.ms[k].2) = N3 at *
        generalize m.ms[k].1 = xk at *
        have p2 : SK.size + N2.size ≤ 10000 := by omega
        have c47w := hc.b.cell hM.h47
        rw [hp] at c47w
        go_wp2_with fail
        refine wp_region_later (Mod.refl (fun _ => False) wr) (by kernel_rfl) (by kernel_rfl) ?_
        repeat (go_big_quiet_step ((go_at_call 24; exact Calls.later (ln.out _))))
        refine wpQuiet_nil ?_
        rintro w3 ⟨⟨_, x3⟩, rfl⟩
        have hc3 := hc.below (x3.below (Nat.le_refl _) (fun _ h => h.elim))
        clear cm hcv c47
        go_wp2_with fail
        go_roundw
        case rel => exact ⟨k + 1, by omega, by go_num, by rw [Hst.out], hc3⟩
        case measure => simp [intOf]; omega
    · obtain rfl : k = m.ms.length := by omega
      have c47w := hc.b.cell hM.h47
      go_wp2_with fail
      go_ret
      rw [List.take_length] at *
      exact ⟨by subst hbody; exact rfl, hc.low⟩

theorem body_calls (C : Array Value) (m : MV) (w : World) (hM : MsgOf C m) (hA : MarksAt w m) (hG : Good m) : Calls Try.prog 15 #[.agg C] w fun e w' => e = .returned (.string (bodyS m)) ∧ Below w.heap.size w w' := by
  have hk : m.kind = 1 ∨ m.kind = 2 ∨ m.kind = 3 ∨ m.kind = 4 ∨ m.kind = 5 := by
    have h := hG.may
    rw [may_ref_plain, Bool.and_eq_true, decide_eq_true_eq] at h
    omega
  rcases hk with h | h | h | h | h
  · exact body1_calls C m w hM hA hG h
  · exact body2_calls C m w hM hA hG h
  · exact body3_calls C m w hM hA hG h
  · exact body4_calls C m w hM hA hG h
  · exact body5_calls C m w hM hA hG h
end Go.Proofs.Ytcipdimnbleljaa
