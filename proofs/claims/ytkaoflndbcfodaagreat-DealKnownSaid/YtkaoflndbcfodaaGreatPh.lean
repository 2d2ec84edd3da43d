/-
  Layer 13, the program's: All.
-/
import Derived.Test.YtkaoflndbcfodaaGreatPa
import Derived.Test.YtkaoflndbcfodaaGreatKy
namespace Go.Proofs.YtkaoflndbcfodaaGreat
open Go.RowKit
attribute [local go_sem] Oper.semAt_some

theorem allQ_mem {rows : List Rou2} {t : List Rq} {r : Int} : r ∈ allQ rows t ↔ (0 ≤ r ∧ r < t.length) ∧ 0 ≤ whereP rows r := by
  unfold allQ
  rw [List.mem_filter, List.mem_map]
  constructor
  · rintro ⟨⟨i, hi, rfl⟩, h⟩
    have := List.mem_range.1 hi
    exact ⟨by omega, of_decide_eq_true h⟩
  · rintro ⟨⟨h0, h1⟩, h⟩
    exact ⟨⟨r.toNat, List.mem_range.2 (by omega), by omega⟩, decide_eq_true h⟩
theorem allQ_sorted (rows : List Rou2) (t : List Rq) : (allQ rows t).Pairwise (· < ·) := by
  unfold allQ
  refine List.Pairwise.filter _ ?_
  refine List.pairwise_map.2 ?_
  exact List.pairwise_lt_range.imp (fun h => by omega)
theorem allQ_len (rows : List Rou2) (t : List Rq) : (allQ rows t).length ≤ t.length := by
  unfold allQ
  have := List.length_filter_le (fun r => decide (0 ≤ whereP rows r)) ((List.range t.length).map fun i : Nat => (i : Int))
  simpa using this
theorem where_rg {fl : List Ve} {rows : List Rou2} {t : List Rq} (hP : PlnOk fl rows t) {r : Int} (h : 0 ≤ whereP rows r) : 0 ≤ r ∧ r < t.length := by
  obtain ⟨k, hk, e, s, hs, rfl⟩ := where_some h
  have hR := hP.right k (by rw [← hP.len]; exact hk)
  have hs' : s ∈ rows.getD k [] := by rw [List.getD_eq_getElem?_getD, List.getElem?_eq_getElem hk]; exact hs
  exact ⟨(rou_mem hR.2.2.2.1 hs').1, hR.2.2.2.2.1 s hs'⟩
theorem all_sort {fl : List Ve} {rows : List Rou2} {t : List Rq} (hP : PlnOk fl rows t) {ks : List Int} (hnd : ks.Nodup) (hm : ∀ r, r ∈ ks ↔ (whM rows r).isSome = true) : ks.length = (allQ rows t).length ∧ ks.mergeSort (fun x y => decide (x ≤ y)) = allQ rows t := by
  have hs := allQ_sorted rows t
  have hnd2 : (allQ rows t).Nodup := hs.imp (fun h => by omega)
  have hp : ks.Perm (allQ rows t) := (List.perm_ext_iff_of_nodup hnd hnd2).2 fun r => by
    rw [hm, allQ_mem]
    by_cases h : 0 ≤ whereP rows r
    · rw [whM_some h]
      simp only [Option.isSome_some, true_iff]
      exact ⟨where_rg hP h, h⟩
    · rw [whM_none (by omega)]
      simp only [Option.isSome_none, Bool.false_eq_true, false_iff]
      exact fun x => h x.2
  have tr : ∀ a b c : Int, decide (a ≤ b) = true → decide (b ≤ c) = true → decide (a ≤ c) = true := fun a b c h1 h2 => by simp only [decide_eq_true_eq] at *; omega
  have tot : ∀ a b : Int, (decide (a ≤ b) || decide (b ≤ a)) = true := fun a b => by simp only [Bool.or_eq_true, decide_eq_true_eq]; omega
  refine ⟨hp.length_eq, List.Perm.eq_of_pairwise (le := fun a b => decide (a ≤ b) = true) (fun a b _ _ h1 h2 => ?_) (List.pairwise_mergeSort tr tot ks) (hs.imp (fun h => by simp only [decide_eq_true_eq]; omega)) ((List.mergeSort_perm ks _).trans hp)⟩
  simp only [decide_eq_true_eq] at h1 h2
  omega
def AqPost (w : World) (R : List Int) (e : Ending) (w' : World) : Prop :=
  (∃ q d, e = .returned (.slice q R.length d) ∧ R.length ≤ d ∧ Els w' q 1 (R.map inV) ∧ (R ≠ [] → ∃ g C, q = some ⟨g, 0, none⟩ ∧ w.heap.size ≤ g ∧ Blk w' g C 3)) ∧ Below w.heap.size w w'
set_option maxHeartbeats 2000000 in
set_option maxRecDepth 100000 in
theorem pall_calls {w : World} {F : Nat → Prop} {b gT gM N : Nat} {fl : List Ve} {rows : List Rou2} {t : List Rq} (hP : PlnOk fl rows t) (ht : t.length ≤ 1000) (h : PlanAt w F b gT gM N fl rows t) (hN : N ≤ 100000) :
    Calls Tryz.prog 32 #[.pointer (some ⟨b, 0, none⟩)] w (AqPost w (allQ rows t)) := by
  have hso := Lib.hid (fun ks hnd hm => all_sort hP (ks := ks) hnd hm)
  have hql := allQ_len rows t
  obtain ⟨qT, dT, cT, qs, h⟩ := h
  have k2 := h.box.cell (i := 2) rfl
  generalize allQ rows t = Q at *
  have hcS := Lib.hid (kySorted (W := w.alloc (.cells #[.map (some gM)] 86)) (h.map.mod ((Mod.refl (fun _ => False) w).alloc _) (fun h => h)) hN (g := w.heap.size) (cellN w _ _).1)
  have hcK := Lib.hid (kyKeys 5 (some gM) w)
  have hb1 := Lib.hid (new_below w (.cells #[.map (some gM)] 86))
  clear h hP
  refine (callsIn_wide (n := 6)).1 ?_
  refine callsIn_of_wp Tryz.func32 rfl trivial ?_ rfl
  simp only [Tryz.ntmps32, List.size_toArray, List.length_cons, List.length_nil, Nat.reduceAdd, Nat.reduceSub, Array.replicate_succ, Array.replicate_zero, List.push_toArray, List.append_toArray, List.nil_append, List.cons_append]
  have hfK : Fence.wide.fn 54 := trivial
  have hfS : Fence.wide.fn 53 := trivial
  gi_wp2_with (first | (gi_at_call 54; refine hcK.out.mono ?_; rintro e w' ⟨rfl, rfl⟩) | (gi_at_call 53; refine hcS.out.mono ?_; rintro e w3 ⟨v, ss, rfl, ⟨hnd, hmm⟩, hO, hb3⟩))
  obtain ⟨hl, he⟩ := hso.out ss hnd hmm
  rw [he, hl] at hO
  have hb4 := hb1.out.trans (hb3.mono hb1.out.size)
  obtain ⟨q4, n4, d4, rfl⟩ := own_isS hO
  obtain ⟨h1, h2, h3, _⟩ := own_els (R := Q.map inV) (fun x hx => by obtain ⟨z, _, rfl⟩ := List.mem_map.1 hx; rfl) (by rw [List.length_map, show (Q.map inV).flatten = Q.map (Value.int .i64) from inV_map Q]; exact hO) (by rw [List.length_map]; omega)
  rw [List.length_map] at h2
  subst h2
  have hbs := hb1.out.size
  have hown : Q ≠ [] → ∃ g C, q4 = some ⟨g, 0, none⟩ ∧ w.heap.size ≤ g ∧ Blk w3 g C 3 := fun h0 => by
    obtain ⟨g, C, e1, e2, e3, _⟩ := ownS_blk hO (by cases Q with | nil => exact absurd rfl h0 | cons _ _ => simp)
    exact ⟨g, C, e1, Nat.le_trans hbs e3, e2⟩
  replace h1 := Lib.hid h1
  replace hb4 := Lib.hid hb4
  replace hown := Lib.hid hown
  clear hO hb3 hl he hnd hmm hso hcS hcK hb1
  go_ret
  exact ⟨⟨q4, d4, rfl, h3, h1.out, hown.out⟩, hb4.out⟩
end Go.Proofs.YtkaoflndbcfodaaGreat
