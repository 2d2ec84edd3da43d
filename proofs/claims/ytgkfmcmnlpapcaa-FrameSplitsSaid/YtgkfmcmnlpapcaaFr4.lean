/-
  Layer 17 (frame), fourth part: the program's Count, over its iterator.
-/
import Derived.Test.YtgkfmcmnlpapcaaFr3
namespace Go.Proofs.Ytgkfmcmnlpapcaa
open Go.RowKit Frm
attribute [local go_sem] Oper.semAt_some

namespace Frm
theorem errs_vals : ∀ (f : Nat) (s : ByteArray), ∀ x ∈ errs f s, x = 0 ∨ x = 14
  | 0, _, x, h => by simp [errs] at h
  | f + 1, s, x, h => by
    simp only [errs] at h
    split at h
    · simp at h
    · split at h
      · rcases List.mem_cons.1 h with h | h
        · exact .inl h
        · exact errs_vals f _ x h
      · simp at h; exact .inr h
theorem errs_len : ∀ (f : Nat) (s : ByteArray), (errs f s).length ≤ s.size
  | 0, _ => by simp [errs]
  | f + 1, s => by
    by_cases h0 : s.size = 0
    · simp [errs, h0]
    · by_cases hok : ok s = true
      · have h1 := splR_lt s h0
        have h2 := errs_len f (splR s)
        simp [errs, h0, hok]; omega
      · simp [errs, h0, hok]; omega
theorem cnt_errs : ∀ (f : Nat) (s : ByteArray) (n : Nat), s.size < f → cnt f s n = if (errs f s).all (fun x => decide (x = 0)) = true then some (n + (errs f s).length) else none
  | 0, _, _, h => by omega
  | f + 1, s, n, h => by
    by_cases h0 : s.size = 0
    · simp [errs, cnt, h0]
    · by_cases hok : ok s = true
      · have := splR_lt s h0
        have e1 : errs (f + 1) s = 0 :: errs f (splR s) := by simp [errs, h0, hok]
        have e2 : cnt (f + 1) s n = cnt f (splR s) (n + 1) := by simp [cnt, h0, hok]
        rw [e1, e2, cnt_errs f (splR s) (n + 1) (by omega)]
        simp only [List.all_cons, decide_true, Bool.true_and, List.length_cons]
        congr 2
        omega
      · simp [errs, cnt, h0, hok]
end Frm

theorem errors_calls (s : ByteArray) (w : World) : Calls Try.prog 19 #[.string s] w fun e w' => e = .returned (.func (.func 20) #[] #[.pointer (some ⟨w.heap.size, 0, none⟩)]) ∧ w.alloc (.cells #[.string s] 9) = w' := by
  go_enter Try.func19, Try.ntmps19
  go_wp2
  go_ret
  exact ⟨rfl, rfl⟩

set_option maxHeartbeats 400000 in
theorem count_calls (s : ByteArray) (w : World) (hs : s.size ≤ maxLen) :
    Calls Try.prog 16 #[.string s] w fun e w' => e = .returned (.tuple #[.int .i64 (cntN s), .int .i64 (cntE s)]) ∧ Below w.heap.size w w' := by
  refine calls_of_all fun n => ?_
  refine callsIn_of_wp_marks Try.func16 rfl trivial ?_ rfl
  simp only [Try.ntmps16, List.size_toArray, List.length_cons, List.length_nil, Nat.reduceAdd, Nat.reduceSub, Array.replicate_succ, Array.replicate_zero, List.push_toArray, List.append_toArray, List.nil_append, List.cons_append]
  gi_wp2_with fail
  refine callW (errors_calls _ _) ?_
  rintro e w1 ⟨rfl, rfl⟩
  gi_wp2
  -- the world where the loop begins, under a name
  obtain ⟨W0, hW0⟩ : ∃ W0, ((w.alloc (.cells #[.int .i64 0] 3)).alloc (.cells #[.int .i64 0] 22)).alloc (.cells #[.string s] 9) = W0 := ⟨_, rfl⟩
  have hz : W0.heap.size = w.heap.size + 3 := by rw [← hW0]; simp
  have k0 := cellN w (.int .i64 0) 3
  have k1 := cellN (w.alloc (.cells #[.int .i64 0] 3)) (.int .i64 0) 22
  have k2 := cellN ((w.alloc (.cells #[.int .i64 0] 3)).alloc (.cells #[.int .i64 0] 22)) (.string s) 9
  simp only [World.size_alloc] at k1 k2
  have c0 : W0.cell? ⟨w.heap.size, 0, none⟩ = some (.int .i64 0) := by rw [← hW0]; exact cellA _ (cellA _ k0.1)
  have c1 : W0.cell? ⟨w.heap.size + 1, 0, none⟩ = some (.int .i64 0) := by rw [← hW0]; exact cellA _ k1.1
  have c2 : W0.cell? ⟨w.heap.size + 2, 0, none⟩ = some (.string s) := by rw [← hW0]; exact k2.1
  have f0 : W0.frozen? ⟨w.heap.size, 0, none⟩ = false := by rw [← hW0]; exact frozA _ (cellA _ k0.1) (frozA _ k0.1 k0.2)
  have f1 : W0.frozen? ⟨w.heap.size + 1, 0, none⟩ = false := by rw [← hW0]; exact frozA _ k1.1 k1.2
  have f2 : W0.frozen? ⟨w.heap.size + 2, 0, none⟩ = false := by rw [← hW0]; exact k2.2
  clear k0 k1 k2
  have hb0 : Below w.heap.size w W0 := by rw [← hW0]; exact (((Below.refl _ _).alloc (Nat.le_refl _) _).alloc (by simp) _).alloc (by simp; omega) _
  rw [hW0]
  clear hW0
  refine wp_rangeIter (gf := 20) (lb := #[.pointer (some ⟨w.heap.size + 2, 0, none⟩)]) rfl (enters_of Try.func20 (by kernel_rfl) rfl)
    (encs := fun e : Int => #[.int .i64 e]) (fun _ => rfl) (S := fun k => k = w.heap.size + 2) (Dt := fun _ => False) (xs := errs (s.size + 1) s)
    (fun o o' => errors_iter s _ (w.heap.size + 2) (s.size + 1) hs (by omega) (cellA _ (cellA _ c2)) (frozA _ (cellA _ c2) (frozA _ c2 f2)))
    (by omega) (by simp)
    (fun pre W => W.cell? ⟨w.heap.size, 0, none⟩ = some (.int .i64 pre.length) ∧ W.frozen? ⟨w.heap.size, 0, none⟩ = false ∧ W.cell? ⟨w.heap.size + 1, 0, none⟩ = some (.int .i64 0) ∧ W.frozen? ⟨w.heap.size + 1, 0, none⟩ = false ∧ Below w.heap.size w W ∧ w.heap.size + 3 ≤ W.heap.size ∧ pre.all (fun x => decide (x = 0)) = true)
    (fun c pre W => c = .ret ∧ W.cell? ⟨w.heap.size, 0, none⟩ = some (.int .i64 0) ∧ W.frozen? ⟨w.heap.size, 0, none⟩ = false ∧ W.cell? ⟨w.heap.size + 1, 0, none⟩ = some (.int .i64 14) ∧ W.frozen? ⟨w.heap.size + 1, 0, none⟩ = false ∧ Below w.heap.size w W ∧ w.heap.size + 3 ≤ W.heap.size ∧ pre.all (fun x => decide (x = 0)) = false)
    ?hI ?hIx ?h0 ?hround ?hdone ?hstop
  case h0 => exact ⟨c0, f0, c1, f1, hb0, by omega, rfl⟩
  case hI =>
    rintro pre A B ⟨a1, a2, a3, a4, a5, a6, a7⟩ hm
    refine ⟨hm.cell_of (by simp; omega) a1, (hm.frozen (by simp; omega) (by simp; omega)).trans a2, hm.cell_of (by simp; omega) a3, (hm.frozen (by simp; omega) (by simp; omega)).trans a4, a5.trans (hm.below (by omega) (by omega)), by have := hm.size; omega, a7⟩
  case hIx =>
    rintro c pre A B ⟨a0, a1, a2, a3, a4, a5, a6, a7⟩ hm
    refine ⟨a0, hm.cell_of (by simp; omega) a1, (hm.frozen (by simp; omega) (by simp; omega)).trans a2, hm.cell_of (by simp; omega) a3, (hm.frozen (by simp; omega) (by simp; omega)).trans a4, a5.trans (hm.below (by omega) (by omega)), by have := hm.size; omega, a7⟩
  case hround =>
    rintro pre x rest W hx hSW hlt ⟨a1, a2, a3, a4, a5, a6, a7⟩
    gi_wp2
    refine ⟨Mod.refl _ _, fun W2 hm => ?_⟩
    replace a1 := hm.cell_of (p := ⟨w.heap.size, 0, none⟩) (by simp; omega) a1
    replace a3 := hm.cell_of (p := ⟨w.heap.size + 1, 0, none⟩) (by simp; omega) a3
    replace a2 : W2.frozen? ⟨w.heap.size, 0, none⟩ = false := (hm.frozen (by simp; omega) (by simp; omega)).trans a2
    replace a4 : W2.frozen? ⟨w.heap.size + 1, 0, none⟩ = false := (hm.frozen (by simp; omega) (by simp; omega)).trans a4
    replace a5 := a5.trans (hm.below (B := w.heap.size) (by omega) (by omega))
    replace a6 : w.heap.size + 3 ≤ W2.heap.size := by have := hm.size; omega
    clear hm
    have hl : (pre.length : Int) + 1 ≤ 9223372036854775807 := by
      have h1 := errs_len (s.size + 1) s
      rw [hx] at h1
      simp at h1
      unfold maxLen at hs
      omega
    have hsq : pre.all (fun x => decide (x = 0)) = true ∧ True := ⟨a7, trivial⟩
    clear a7
    rcases errs_vals (s.size + 1) s x (by rw [hx]; simp) with rfl | rfl
    · have hm : Mod (fun k => ¬ k = w.heap.size + 2 ∧ ¬ False ∧ k ≠ W0.heap.size ∧ k ≠ W0.heap.size + 1) W2 (W2.setCell ⟨w.heap.size, 0, none⟩ (.int .i64 ((pre.length : Int) + 1))) := Mod.setCell (Mod.refl _ _) (fun _ => by simp; omega) _
      have hc : (W2.setCell ⟨w.heap.size, 0, none⟩ (.int .i64 ((pre.length : Int) + 1))).cell? ⟨w.heap.size, 0, none⟩ = some (.int .i64 ((pre.length : Int) + 1)) := World.cell?_setCell_same _ _ _ a1
      have hc' : (W2.setCell ⟨w.heap.size, 0, none⟩ (.int .i64 ((pre.length : Int) + 1))).cell? ⟨w.heap.size + 1, 0, none⟩ = some (.int .i64 0) := (World.cell?_setCell_other _ _ _ _ (by simp)).trans a3
      have HC := Lib.hid hc
      have HC' := Lib.hid hc'
      clear hc hc'
      gi_wp2
      exact ⟨hm, by rw [HC.out]; simp, by simpa using a2, HC'.out, by simpa using a4, a5.setCell (p := ⟨w.heap.size, 0, none⟩) (Nat.le_refl _) _, by simpa using a6, by simp [hsq.1]⟩
    · have hm : Mod (fun k => ¬ k = w.heap.size + 2 ∧ ¬ False ∧ k ≠ W0.heap.size ∧ k ≠ W0.heap.size + 1) W2 ((W2.setCell ⟨w.heap.size, 0, none⟩ (.int .i64 0)).setCell ⟨w.heap.size + 1, 0, none⟩ (.int .i64 14)) :=
        Mod.setCell (Mod.setCell (Mod.refl _ _) (fun _ => by simp; omega) _) (fun _ => by simp; omega) _
      have hc : ((W2.setCell ⟨w.heap.size, 0, none⟩ (.int .i64 0)).setCell ⟨w.heap.size + 1, 0, none⟩ (.int .i64 14)).cell? ⟨w.heap.size, 0, none⟩ = some (.int .i64 0) := (World.cell?_setCell_other _ _ _ _ (by simp)).trans (World.cell?_setCell_same _ _ _ a1)
      have hc' : ((W2.setCell ⟨w.heap.size, 0, none⟩ (.int .i64 0)).setCell ⟨w.heap.size + 1, 0, none⟩ (.int .i64 14)).cell? ⟨w.heap.size + 1, 0, none⟩ = some (.int .i64 14) :=
        World.cell?_setCell_same _ _ _ ((World.cell?_setCell_other _ _ _ _ (by simp)).trans a3)
      have HC := Lib.hid hc
      have HC' := Lib.hid hc'
      clear hc hc'
      gi_wp2
      exact ⟨hm, rfl, HC.out, by simpa using a2, HC'.out, by simpa using a4, (a5.setCell (p := ⟨w.heap.size, 0, none⟩) (Nat.le_refl _) _).setCell (p := ⟨w.heap.size + 1, 0, none⟩) (by simp) _, by simpa using a6, by simp⟩
  case hdone =>
    rintro W ⟨a1, a2, a3, a4, a5, a6, a7⟩ hD hlt
    have hN : cntN s = (errs (s.size + 1) s).length := by simp [cntN, cnt_errs _ s 0 (Nat.lt_succ_self _), a7]
    have hE : cntE s = 0 := by simp [cntE, cnt_errs _ s 0 (Nat.lt_succ_self _), a7]
    have HN := Lib.hid hN
    have HE := Lib.hid hE
    clear hN hE a7
    gi_wp2
    refine ⟨by simp, .inl ⟨_, _, rfl, run_takeDeferred (setCell_heap (setCell_heap hD (by simp; omega)) (by simp; omega)), ?_⟩⟩
    refine ⟨.tuple #[.int .i64 (cntN s), .int .i64 (cntE s)], ?_, rfl, ?_⟩
    · rw [HN.out, HE.out]
      have q0 : (((W.setCell ⟨w.heap.size, 0, none⟩ (.int .i64 ((errs (s.size + 1) s).length : Int))).setCell ⟨w.heap.size + 1, 0, none⟩ (.int .i64 0)).putObj W0.heap.size (.deferred none)).cell? ⟨w.heap.size, 0, none⟩ = some (.int .i64 ((errs (s.size + 1) s).length : Int)) :=
        (putObj_cell (by simp; omega)).trans ((World.cell?_setCell_other _ _ _ _ (by simp)).trans (World.cell?_setCell_same _ _ _ a1))
      have q1 : (((W.setCell ⟨w.heap.size, 0, none⟩ (.int .i64 ((errs (s.size + 1) s).length : Int))).setCell ⟨w.heap.size + 1, 0, none⟩ (.int .i64 0)).putObj W0.heap.size (.deferred none)).cell? ⟨w.heap.size + 1, 0, none⟩ = some (.int .i64 0) :=
        (putObj_cell (by simp; omega)).trans (World.cell?_setCell_same _ _ _ ((World.cell?_setCell_other _ _ _ _ (by simp)).trans a3))
      simp [results, Try.results16, go_sem, q0, q1]
    · exact below_putObj ((a5.setCell (p := ⟨w.heap.size, 0, none⟩) (Nat.le_refl _) _).setCell (p := ⟨w.heap.size + 1, 0, none⟩) (by simp) _) (by omega) _
  case hstop =>
    rintro c pre x rest W hx ⟨rfl, a1, a2, a3, a4, a5, a6, a7⟩ hD hlt
    gi_wp2
    refine ⟨by simp, .inl ⟨_, _, rfl, run_takeDeferred hD, ?_⟩⟩
    have hcn : cnt (s.size + 1) s 0 = none := by rw [cnt_errs _ s 0 (Nat.lt_succ_self _), if_neg]; rw [hx, show pre ++ x :: rest = (pre ++ [x]) ++ rest by simp, List.all_append, a7]; simp
    have hN : cntN s = 0 := by simp [cntN, hcn]
    have hE : cntE s = 14 := by simp [cntE, hcn]
    refine ⟨.tuple #[.int .i64 (cntN s), .int .i64 (cntE s)], ?_, rfl, ?_⟩
    · rw [hN, hE]
      have q0 : (W.putObj W0.heap.size (.deferred none)).cell? ⟨w.heap.size, 0, none⟩ = some (.int .i64 0) := (putObj_cell (by simp; omega)).trans a1
      have q1 : (W.putObj W0.heap.size (.deferred none)).cell? ⟨w.heap.size + 1, 0, none⟩ = some (.int .i64 14) := (putObj_cell (by simp; omega)).trans a3
      simp [results, Try.results16, go_sem, q0, q1]
    · exact below_putObj a5 (by omega) _

end Go.Proofs.Ytgkfmcmnlpapcaa
