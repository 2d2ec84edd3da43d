/-
  Layer 13, the program's: All.
-/
import Derived.Test.YtpbmeeogledmdaePa
import Derived.Test.YtpbmeeogledmdaeKy
namespace Go.Proofs.Ytpbmeeogledmdae
open Go.RowKit
attribute [local go_sem] Oper.semAt_some

theorem allQ_mem {rows : List Rou2} {t : List Rq} {r : Int} : r ∈ allQ rows t ↔ (0 ≤ r ∧ r < t.length) ∧ 0 ≤ whereP rows r := by
  unfold allQ
  rw [List.mem_filter, List.mem_map]
  constructor
  · rintro ⟨⟨i, hi, rfl⟩, h⟩
    have := List.mem_range.1 hi
    exact ⟨by omega, of_decide_eq_true h⟩
  · rintro ⟨⟨h0, h1⟩, h⟩
    exact ⟨⟨r.toNat, List.mem_range.2 (by omega), by omega⟩, decide_eq_true h⟩
theorem allQ_sorted (rows : List Rou2) (t : List Rq) : (allQ rows t).Pairwise (· < ·) := by
  unfold allQ
  refine List.Pairwise.filter _ ?_
  refine List.pairwise_map.2 ?_
  exact List.pairwise_lt_range.imp (fun h => by omega)
theorem allQ_len (rows : List Rou2) (t : List Rq) : (allQ rows t).length ≤ t.length := by
  unfold allQ
  have := List.length_filter_le (fun r => decide (0 ≤ whereP rows r)) ((List.range t.length).map fun i : Nat => (i : Int))
  simpa using this
theorem where_rg {fl : List Ve} {rows : List Rou2} {t : List Rq} (hP : PlnOk fl rows t) {r : Int} (h : 0 ≤ whereP rows r) : 0 ≤ r ∧ r < t.length := by
  obtain ⟨k, hk, e, s, hs, rfl⟩ := where_some h
  have hR := hP.right k (by rw [← hP.len]; exact hk)
  have hs' : s ∈ rows.getD k [] := by rw [List.getD_eq_getElem?_getD, List.getElem?_eq_getElem hk]; exact hs
  exact ⟨(rou_mem hR.2.2.2.1 hs').1, hR.2.2.2.2.1 s hs'⟩
theorem all_sort {fl : List Ve} {rows : List Rou2} {t : List Rq} (hP : PlnOk fl rows t) {ks : List Int} (hnd : ks.Nodup) (hm : ∀ r, r ∈ ks ↔ (whM rows r).isSome = true) : ks.length = (allQ rows t).length ∧ ks.mergeSort (fun x y => decide (x ≤ y)) = allQ rows t := by
  have hs := allQ_sorted rows t
  have hnd2 : (allQ rows t).Nodup := hs.imp (fun h => by omega)
  have hp : ks.Perm (allQ rows t) := (List.perm_ext_iff_of_nodup hnd hnd2).2 fun r => by
    rw [hm, allQ_mem]
    by_cases h : 0 ≤ whereP rows r
    · rw [whM_some h]
      simp only [Option.isSome_some, true_iff]
      exact ⟨where_rg hP h, h⟩
    · rw [whM_none (by omega)]
      simp only [Option.isSome_none, Bool.false_eq_true, false_iff]
      exact fun x => h x.2
  have tr : ∀ a b c : Int, decide (a ≤ b) = true → decide (b ≤ c) = true → decide (a ≤ c) = true := fun a b c h1 h2 => by simp only [decide_eq_true_eq] at *; omega
  have tot : ∀ a b : Int, (decide (a ≤ b) || decide (b ≤ a)) = true := fun a b => by simp only [Bool.or_eq_true, decide_eq_true_eq]; omega
  refine ⟨hp.length_eq, List.Perm.eq_of_pairwise (le := fun a b => decide (a ≤ b) = true) (fun a b _ _ h1 h2 => ?_) (List.pairwise_mergeSort tr tot ks) (hs.imp (fun h => by simp only [decide_eq_true_eq]; omega)) ((List.mergeSort_perm ks _).trans hp)⟩
  simp only [decide_eq_true_eq] at h1 h2
  omega
def AqPost (w : World) (R : List Int) (e : Ending) (w' : World) : Prop :=
  (∃ q d, e = .returned (.slice q R.length d) ∧ R.length ≤ d ∧ Els w' q 1 (R.map inV) ∧ (R ≠ [] → ∃ g C, q = some ⟨g, 0, none⟩ ∧ w.heap.size ≤ g ∧ Blk w' g C 3)) ∧ Below w.heap.size w w'
end Go.Proofs.Ytpbmeeogledmdae
