/-
  Layer 8: what is open, by a map and sorted, is what the document says. Plain.
-/
import Derived.Test.YtaijimckbpplnaaRm
namespace Go.Proofs.Ytaijimckbpplnaa

/-- what a stop does to the map of what is open -/
def opStep (m : Int → Option Int) (i : Nat) (s : Int × Int) : Int → Option Int :=
  if s.2 = 0 then fun j => if j = s.1 then some (i : Int) else m j else if s.2 = 1 then fun j => if j = s.1 then none else m j else m
def opMap (l : List (Int × Int)) : Nat → Int → Option Int
  | 0 => fun _ => none
  | i + 1 => opStep (opMap l i) i (l.getD i (0, 0))
theorem opMap_iff (l : List (Int × Int)) (r : Int) (i : Nat) : ∀ k, (opMap l k r).isSome = true ↔ (opF l r i k).1 = 1 ∧ (opF l r i k).2.1 = 0
  | 0 => by simp [opMap, opF]
  | k + 1 => by
    have ih := opMap_iff l r i k
    rw [opMap, opF]
    generalize l.getD k (0, 0) = s
    obtain ⟨a, b⟩ := s
    unfold opStep
    dsimp only
    by_cases ha : a = r
    · subst ha
      by_cases h0 : b = 0
      · subst h0; simp
      · by_cases h1 : b = 1
        · subst h1; simp
        · simp only [if_neg h0, if_neg h1, ne_eq, not_true_eq_false, if_false]
          exact ih
    · have ha' : ¬ r = a := fun e => ha e.symm
      by_cases h0 : b = 0
      · simp only [if_pos h0, if_neg ha', ne_eq, ha, not_false_eq_true, if_true]; exact ih
      · by_cases h1 : b = 1
        · simp only [if_neg h0, if_pos h1, if_neg ha', ne_eq, ha, not_false_eq_true, if_true]; exact ih
        · simp only [if_neg h0, if_neg h1, ne_eq, ha, not_false_eq_true, if_true]; exact ih
theorem opMap_there (l : List (Int × Int)) (r : Int) : ∀ k, (opMap l k r).isSome = true → ∃ j, j < k ∧ (l.getD j (0, 0)).1 = r
  | 0, h => by simp [opMap] at h
  | k + 1, h => by
    rw [opMap] at h
    by_cases ha : (l.getD k (0, 0)).1 = r
    · exact ⟨k, by omega, ha⟩
    · have : (opMap l k r).isSome = true := by
        unfold opStep at h
        have ha' : ¬ r = (l.getD k (0, 0)).1 := fun e => ha e.symm
        split at h
        · simpa only [if_neg ha'] using h
        · split at h
          · simpa only [if_neg ha'] using h
          · exact h
      obtain ⟨j, hj, e⟩ := opMap_there l r k this
      exact ⟨j, by omega, e⟩
theorem first_of {P : Nat → Prop} : ∀ (j : Nat), P j → ∃ i, i ≤ j ∧ P i ∧ ∀ m, m < i → ¬ P m := by
  intro j
  induction j using Nat.strongRecOn with
  | _ j ih =>
    intro h
    by_cases hx : ∃ m, m < j ∧ P m
    · obtain ⟨m, hm, hp⟩ := hx
      obtain ⟨i, hi, hpi, hn⟩ := ih m hm hp
      exact ⟨i, by omega, hpi, hn⟩
    · exact ⟨j, Nat.le_refl _, h, fun m hm hp => hx ⟨m, hm, hp⟩⟩
theorem opL_iff (l : List (Int × Int)) (k : Nat) (r : Int) : ∀ i, r ∈ opL l k i ↔ ∃ j, j < i ∧ (l.getD j (0, 0)).1 = r ∧ opT l r j k = true
  | 0 => by simp [opL]
  | i + 1 => by
    rw [opL]
    constructor
    · intro h
      split at h
      · rename_i ht
        rcases (insD_mem _ _ _).1 h with h | h
        · exact ⟨i, by omega, h.symm, by rw [h]; exact ht⟩
        · obtain ⟨j, hj, e⟩ := (opL_iff l k r i).1 h
          exact ⟨j, by omega, e⟩
      · obtain ⟨j, hj, e⟩ := (opL_iff l k r i).1 h
        exact ⟨j, by omega, e⟩
    · rintro ⟨j, hj, e, ht⟩
      by_cases hji : j = i
      · subst hji
        rw [e, if_pos ht]
        exact (insD_mem _ _ _).2 (.inl rfl)
      · have := (opL_iff l k r i).2 ⟨j, by omega, e, ht⟩
        split
        · exact (insD_mem _ _ _).2 (.inr this)
        · exact this
/-- what is open: those that the map has -/
theorem openD_iff (l : List (Int × Int)) (k : Nat) (r : Int) : r ∈ openD l k ↔ (opMap l k r).isSome = true := by
  unfold openD
  rw [opL_iff]
  constructor
  · rintro ⟨j, _, _, ht⟩
    unfold opT at ht
    simp only [Bool.and_eq_true, beq_iff_eq] at ht
    exact (opMap_iff l r j k).2 ht.2
  · intro h
    obtain ⟨j, hj, e⟩ := opMap_there l r k h
    obtain ⟨i, hi, hp, hn⟩ := first_of (P := fun j => (l.getD j (0, 0)).1 = r) j e
    refine ⟨i, by omega, hp, ?_⟩
    unfold opT
    simp only [Bool.and_eq_true, beq_iff_eq]
    exact ⟨(opF_first l r i k).2 (fun m _ hm => hn m hm), (opMap_iff l r i k).1 h⟩
theorem takeW_mem (f : Int → Bool) : ∀ (L : List Int) (a : Int), a ∈ L.takeWhile f → f a = true
  | [], a, h => by simp at h
  | x :: L, a, h => by
    rw [List.takeWhile_cons] at h
    split at h
    · rename_i hx
      rcases List.mem_cons.1 h with rfl | h
      · exact hx
      · exact takeW_mem f L a h
    · cases h
theorem insD_sorted {L : List Int} {n : Int} (h : L.Pairwise (· < ·)) (hn : n ∉ L) : (insD L n).Pairwise (· < ·) := by
  have e := List.takeWhile_append_dropWhile (p := fun x => decide (x < n)) (l := L)
  have hs := h
  rw [← e] at hs
  unfold insD
  rw [List.pairwise_append] at hs ⊢
  obtain ⟨h1, h2, h3⟩ := hs
  have ht : ∀ a ∈ L.takeWhile (fun x => decide (x < n)), a < n := fun a ha => by
    have := takeW_mem _ L a ha
    simpa using this
  have hd : ∀ b ∈ L.dropWhile (fun x => decide (x < n)), n < b := by
    intro b hb
    have hbL : b ∈ L := by rw [← e]; exact List.mem_append_right _ hb
    have hne : b ≠ n := fun e1 => hn (e1 ▸ hbL)
    cases hq : L.dropWhile (fun x => decide (x < n)) with
    | nil => rw [hq] at hb; cases hb
    | cons y q =>
      have hy : ¬ y < n := by
        have := List.head?_dropWhile_not (p := fun x => decide (x < n)) L
        rw [hq] at this
        simpa using this
      rw [hq] at hb h2
      rcases List.mem_cons.1 hb with rfl | hb
      · omega
      · have := (List.pairwise_cons.1 h2).1 b hb
        omega
  refine ⟨h1, List.pairwise_cons.2 ⟨hd, h2⟩, fun a ha b hb => ?_⟩
  rcases List.mem_cons.1 hb with rfl | hb
  · exact ht a ha
  · exact h3 a ha b hb
theorem opL_sorted (l : List (Int × Int)) (k : Nat) : ∀ i, i ≤ k → (opL l k i).Pairwise (· < ·)
  | 0, _ => by rw [opL]; exact List.Pairwise.nil
  | i + 1, hi => by
    have ih := opL_sorted l k i (by omega)
    rw [opL]
    split
    · rename_i ht
      refine insD_sorted ih fun hm => ?_
      obtain ⟨j, hj, e, _⟩ := (opL_iff l k _ i).1 hm
      unfold opT at ht
      simp only [Bool.and_eq_true] at ht
      exact (opF_first l _ i k).1 ht.1 j (by omega) hj e
    · exact ih
/-- whatever order the map's keys came in -/
theorem open_sort {l : List (Int × Int)} {k : Nat} {ks : List Int} (hnd : ks.Nodup) (hm : ∀ r, r ∈ ks ↔ (opMap l k r).isSome = true) : ks.mergeSort (fun x y => decide (x ≤ y)) = openD l k := by
  have hs := opL_sorted l k k (Nat.le_refl _)
  have hnd2 : (openD l k).Nodup := hs.imp (fun h => by omega)
  have hp : ks.Perm (openD l k) := (List.perm_ext_iff_of_nodup hnd hnd2).2 fun r => by rw [hm, openD_iff]
  have tr : ∀ a b c : Int, decide (a ≤ b) = true → decide (b ≤ c) = true → decide (a ≤ c) = true := fun a b c h1 h2 => by simp only [decide_eq_true_eq] at *; omega
  have tot : ∀ a b : Int, (decide (a ≤ b) || decide (b ≤ a)) = true := fun a b => by simp only [Bool.or_eq_true, decide_eq_true_eq]; omega
  refine List.Perm.eq_of_pairwise (le := fun a b => decide (a ≤ b) = true) (fun a b _ _ h1 h2 => ?_) (List.pairwise_mergeSort tr tot ks) (hs.imp (fun h => by simp only [decide_eq_true_eq]; omega)) ((List.mergeSort_perm ks _).trans hp)
  simp only [decide_eq_true_eq] at h1 h2
  omega
theorem openD_len (l : List (Int × Int)) (k : Nat) : (openD l k).length ≤ k := opL_len l k k
end Go.Proofs.Ytaijimckbpplnaa
