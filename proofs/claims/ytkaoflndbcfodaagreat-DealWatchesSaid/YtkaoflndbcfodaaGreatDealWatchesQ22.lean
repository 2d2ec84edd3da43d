/-
  The row 'DealWatches': a pack of the texts Ps, pruned to what the row uses.
-/
import Derived.Test.YtkaoflndbcfodaaGreatDealWatchesQ21
namespace Go.Proofs.YtkaoflndbcfodaaGreat
section
section
open Go.RowKit
theorem ds_same (x y : Int) : dsP x y x y = 0 := by
  unfold dsP ap1
  split
  · simp
  · rfl
theorem right_nil {v : Ve} {t : List Rq} (hv : vehV v = 0) (ht : ∀ q ∈ t, rqE q = 0) : RightV v [] t := by
  refine ⟨hv, ht, by simp, ?_, fun s hs => (by cases hs), fun k hk => by simp at hk, [], v 0, v 1, v 3, rfl, ?_⟩
  · intro r
    exact .inl rfl
  · rw [ds_same]
    unfold vehV vehCode firstV at hv
    split at hv
    · cases hv
    · split at hv
      · cases hv
      · rename_i h1 h2
        simp at h2
        omega
theorem newC_ok0 {fl : List Ve} {t : List Rq} (h : newC fl t = 0) : (1 ≤ fl.length ∧ fl.length ≤ 4) ∧ (∀ v ∈ fl, vehV v = 0) ∧ ∀ q ∈ t, rqE q = 0 := by
  unfold newC at h
  split at h
  · cases h
  · split at h
    · cases h
    · split at h
      · cases h
      · rename_i h1 h2 h3
        simp only [List.any_eq_true, not_exists, not_and, bne_iff_ne, ne_eq, Decidable.not_not] at h2 h3
        exact ⟨by omega, h2, h3⟩
theorem ok0 {fl : List Ve} {t : List Rq} (h : newC fl t = 0) : PlnOk fl (rows0 fl) t := by
  obtain ⟨h1, h2, h3⟩ := newC_ok0 h
  refine ⟨by simp [rows0], h1, h2, h3, fun i hi => ?_, fun i j s s' hs => ?_⟩
  · rw [rows0_at]
    refine right_nil (h2 _ ?_) h3
    rw [List.getD_eq_getElem?_getD, List.getElem?_eq_getElem hi]
    exact List.getElem_mem hi
  · rw [rows0_at] at hs
    cases hs
structure PSt (B : Nat) (w : World) (b gT gM N : Nat) (fl : List Ve) (rows : List Rou2) (t : List Rq) : Prop where
  at_ : ∃ F, PlanAt w F b gT gM N fl rows t
  ok : PlnOk fl rows t
  tl : t.length ≤ 1000
  gB : B ≤ gT ∧ B ≤ gM ∧ gT < w.heap.size ∧ gM < w.heap.size
section
variable {B b gT gM N : Nat} {w : World} {fl : List Ve} {rows : List Rou2} {t : List Rq}
theorem PSt.total (h : PSt B w b gT gM N fl rows t) : Calls Tryz.prog 21 #[.pointer (some ⟨b, 0, none⟩)] w fun e w' => e = .returned (.int .i64 (totP fl rows t)) ∧ Below w.heap.size w w' := by
  obtain ⟨⟨F, h1⟩, h2, h3, h4⟩ := h
  exact total_calls h2 h1
theorem PSt.all (h : PSt B w b gT gM N fl rows t) (hN : N ≤ 100000) : Calls Tryz.prog 32 #[.pointer (some ⟨b, 0, none⟩)] w (AqPost w (allQ rows t)) := by
  obtain ⟨⟨F, h1⟩, h2, h3, h4⟩ := h
  exact pall_calls h2 h3 h1 hN
theorem PSt.has (h : PSt B w b gT gM N fl rows t) (req : Int) (hq : wf64 req) : Calls Tryz.prog 22 #[.pointer (some ⟨b, 0, none⟩), .int .i64 req] w fun e w' => e = .returned (.bool (decide (0 ≤ whereP rows req))) ∧ w = w' := by
  obtain ⟨⟨F, h1⟩, h2, h3, h4⟩ := h
  exact has_calls h1 req hq
end
end
section
open Go.RowKit
theorem wf_lit {n : Int} (h : -1000 ≤ n ∧ n ≤ 1000) : wf64 n := by unfold wf64; omega
end
section
open Go.RowKit
theorem plB_of {x y : Int} (h : 0 ≤ x ∧ x < 1024 ∧ 0 ≤ y ∧ y < 1024) : plB x y = true := decide_eq_true h
theorem wiB_of {e l : Int} (h : 0 ≤ e ∧ e ≤ l ∧ l ≤ 1048576) : wiB e l = true := decide_eq_true h
theorem drV_okP (B : List Int) (k : Int) : vehV (drV B k) = 0 := by
  have h1 := nx_bd B (k + 1) (m := 20) (by omega)
  have h2 := nx_bd B (k + 2) (m := 20) (by omega)
  have h3 := nx_bd B (k + 3) (m := 20) (by omega)
  have h4 := nx_bd B (k + 4) (m := 20) (by omega)
  have h5 := nx_bd B (k + 5) (m := 100) (by omega)
  show vehCode (500 + nx B (k + 1) 20) (500 + nx B (k + 2) 20) (8 + nx B (k + 3) 20) (nx B (k + 4) 20) (300 + 8 * nx B (k + 5) 100) = 0
  unfold vehCode firstV
  rw [plB_of (by omega), decide_eq_true (by omega), decide_eq_true (by omega), decide_eq_true (by omega)]
  rfl
theorem drR_okP (B : List Int) (wd k fr : Int) (hf : 0 ≤ fr ∧ fr ≤ 100000) : rqE (drR B wd k fr) = 0 := by
  have h1 := nx_bd B (k + 1) (m := 40) (by omega)
  have h2 := nx_bd B (k + 2) (m := 60) (by omega)
  have h3 := nx_bd B (k + 3) (m := 20) (by omega)
  have h4 := nx_bd B (k + 4) (m := 20) (by omega)
  have h5 := nx_bd B (k + 5) (m := 20) (by omega)
  have h6 := nx_bd B (k + 6) (m := 20) (by omega)
  have h7 := nx_bd B (k + 7) (m := 9) (by omega)
  have h8 := nx_bd B (k + 8) (m := 4) (by omega)
  have h9 := wideI_bd wd
  show rqCode (500 + nx B (k + 3) 20) (500 + nx B (k + 4) 20) (500 + nx B (k + 5) 20) (500 + nx B (k + 6) 20) (fr + nx B (k + 1) 40) (fr + nx B (k + 1) 40 + wideI wd) (fr + nx B (k + 1) 40 + nx B (k + 2) 60) (fr + nx B (k + 1) 40 + nx B (k + 2) 60 + wideI wd + 30) (1 + nx B (k + 7) 9) (nx B (k + 8) 4) = 0
  unfold rqCode firstC
  rw [plB_of (by omega), plB_of (by omega), wiB_of (by omega), wiB_of (by omega), decide_eq_true (by omega), decide_eq_true (by omega)]
  rfl
end
end
end Go.Proofs.YtkaoflndbcfodaaGreat
