/-
  Layer 8, plain: a route without one of its requests, what is on board; the peak, and a vehicle that has as much room.
-/
import Derived.Test.YtaijimckbpplnaaLp
import Derived.Test.YtaijimckbpplnaaWt
namespace Go.Proofs.Ytaijimckbpplnaa
open Go.RowKit

/-- a route with one of its requests, taken apart -/
theorem rou_dec {l : List (Int × Int)} (hR : Rou l) {s : Int × Int} (hs : s ∈ l) : ∃ a b c : List (Int × Int), l = a ++ (s.1, 0) :: (b ++ (s.1, 1) :: c) ∧ (∀ x ∈ a, x.1 ≠ s.1) ∧ (∀ x ∈ b, x.1 ≠ s.1) ∧ (∀ x ∈ c, x.1 ≠ s.1) := by
  obtain ⟨_, _, hsub⟩ := rou_mem hR hs
  generalize s.1 = r at *
  unfold sub pd at hsub
  obtain ⟨a, l2, e1, ha, _, h2⟩ := List.filter_eq_cons_iff.1 hsub
  obtain ⟨b, c, e2, hb, _, hc⟩ := List.filter_eq_cons_iff.1 h2
  subst e2
  exact ⟨a, b, c, e1, fun x hx => by simpa using ha x hx, fun x hx => by simpa using hb x hx, fun x hx => by simpa using (List.filter_eq_nil_iff.1 hc) x hx⟩
theorem wo_keep {a : List (Int × Int)} {r : Int} (h : ∀ x ∈ a, x.1 ≠ r) : woP a r = a := by
  unfold woP
  rw [List.filter_eq_self]
  intro x hx
  simpa using h x hx
/-- how many stops of another request came so far -/
def kI (A D i : Nat) : Nat := if D < i then i - 2 else if A < i then i - 1 else i
/-- how it stands behind a stop of another request -/
structure LessP (l : List (Int × Int)) (r : Int) (t : List Rq) (u : Int) (A D : Nat) : Prop where
  lt : A < D
  len : D < l.length
  at0 : fstI (fun s => decide (s = (r, 0))) l = (A : Int)
  at1 : fstI (fun s => decide (s = (r, 1))) l = (D : Int)
  wo : (woP l r).length + 2 = l.length
  law : ∀ i, i < l.length → i ≠ A → i ≠ D → onK (woP l r) t (kI A D i + 1) = onK l t (i + 1) - (if A < i ∧ i < D then u else 0)
theorem less_ok {l : List (Int × Int)} (hR : Rou l) (t : List Rq) {s : Int × Int} (hs : s ∈ l) : ∃ A D, LessP l s.1 t (t.getD s.1.toNat rqZ0 8) A D := by
  obtain ⟨a, b, c, rfl, ha, hb, hc⟩ := rou_dec hR hs
  generalize s.1 = r at *
  have hw : woP (a ++ (r, 0) :: (b ++ (r, 1) :: c)) r = a ++ (b ++ c) := by
    have e : ∀ p q, woP (p ++ q) r = woP p r ++ woP q r := fun p q => List.filter_append _ _
    have e1 : ∀ q, woP ((r, 0) :: q) r = woP q r := fun q => by unfold woP; simp
    have e2 : ∀ q, woP ((r, 1) :: q) r = woP q r := fun q => by unfold woP; simp
    rw [e, e1, e, e2, wo_keep ha, wo_keep hb, wo_keep hc]
  have s0 : sgL t (r, 0) = t.getD r.toNat rqZ0 8 := by unfold sgL; simp
  have s1 : sgL t (r, 1) = -(t.getD r.toNat rqZ0 8) := by unfold sgL; simp
  generalize t.getD r.toNat rqZ0 8 = u at *
  refine ⟨a.length, a.length + b.length + 1, by omega, by simp; omega, ?_, ?_, by rw [hw]; simp; omega, ?_⟩
  · refine fstI_hit (k := a.length) (by simp) (by simp) fun j x hj hx => ?_
    rw [List.getElem?_append_left hj] at hx
    have := ha x (List.mem_of_getElem? hx)
    refine decide_eq_false fun e => this ?_
    rw [e]
  · have := fstI_hit (P := fun s : Int × Int => decide (s = (r, 1))) (l := a ++ (r, 0) :: (b ++ (r, 1) :: c)) (k := a.length + b.length + 1) (by simp; omega) (by
      simp only [List.getElem_append, List.getElem_cons]
      rw [dif_neg (by omega), dif_neg (by omega), dif_neg (by omega), dif_pos (by omega)]
      simp) (fun j x hj hx => by
      refine decide_eq_false fun e => ?_
      subst e
      have hm : (r, (1 : Int)) ∈ a ++ (r, 0) :: b := by
        have : (a ++ (r, 0) :: (b ++ (r, 1) :: c))[j]? = (a ++ (r, 0) :: b)[j]? := by
          rw [show a ++ (r, (0 : Int)) :: (b ++ (r, 1) :: c) = (a ++ (r, 0) :: b) ++ (r, 1) :: c by simp]
          rw [List.getElem?_append_left (by simp; omega)]
        rw [this] at hx
        exact List.mem_of_getElem? hx
      rcases List.mem_append.1 hm with h | h
      · exact ha _ h rfl
      · rcases List.mem_cons.1 h with h | h
        · simp at h
        · exact hb _ h rfl)
    exact this
  · intro i hi hA hD
    rw [hw]
    unfold onK kI
    simp only [List.length_append, List.length_cons] at hi
    by_cases h1 : i < a.length
    · rw [if_neg (by omega), if_neg (by omega), if_neg (by omega)]
      rw [List.take_append_of_le_length (by omega), List.take_append_of_le_length (by omega)]
      omega
    · have hx : ∀ (x : Int × Int) (q : List (Int × Int)), (x :: q).take (i + 1 - a.length) = x :: q.take (i - a.length) := fun x q => by
        rw [show i + 1 - a.length = i - a.length + 1 by omega, List.take_succ_cons]
      have ta : ∀ n, a.length ≤ n → a.take n = a := fun n h => List.take_of_length_le h
      have tR : (a ++ (r, 0) :: (b ++ (r, 1) :: c)).take (i + 1) = a ++ (r, 0) :: ((b ++ (r, 1) :: c).take (i - a.length)) := by rw [List.take_append, hx, ta _ (by omega)]
      have tL : ∀ n, a.length ≤ n → (a ++ (b ++ c)).take n = a ++ (b ++ c).take (n - a.length) := fun n h => by rw [List.take_append, ta n h]
      rw [tR, tL _ (by split <;> (try split) <;> omega)]
      by_cases h2 : i < a.length + b.length + 1
      · rw [if_neg (by omega), if_pos (by omega), if_pos (by omega)]
        rw [List.take_append_of_le_length (by omega), List.take_append_of_le_length (by omega)]
        rw [show i - 1 + 1 - a.length = i - a.length by omega]
        simp only [List.map_append, List.map_cons, List.sum_append, List.sum_cons, s0]
        omega
      · have tb : ∀ n, b.length ≤ n → b.take n = b := fun n h => List.take_of_length_le h
        rw [if_pos (by omega), if_neg (by omega)]
        have tb1 : ∀ (q : List (Int × Int)) n, b.length ≤ n → (b ++ q).take n = b ++ q.take (n - b.length) := fun q n h => by rw [List.take_append, tb n h]
        rw [tb1 _ _ (by omega), tb1 _ _ (by omega)]
        rw [show i - a.length - b.length = (i - 1 - a.length - b.length) + 1 by omega, List.take_succ_cons, show i - 2 + 1 - a.length - b.length = i - 1 - a.length - b.length by omega]
        simp only [List.map_append, List.map_cons, List.sum_append, List.sum_cons, s0, s1]
        omega
theorem mostL_ge : ∀ (L : List Int) (m : Int), m ≤ L.foldl max m ∧ ∀ x ∈ L, x ≤ L.foldl max m
  | [], m => ⟨Int.le_refl _, fun x hx => by cases hx⟩
  | y :: L, m => by
    obtain ⟨h1, h2⟩ := mostL_ge L (max m y)
    refine ⟨by rw [List.foldl_cons]; omega, fun x hx => ?_⟩
    rw [List.foldl_cons]
    rcases List.mem_cons.1 hx with rfl | hx
    · omega
    · exact h2 x hx
theorem mostL_at : ∀ (L : List Int) (m : Int), L.foldl max m = m ∨ L.foldl max m ∈ L
  | [], m => .inl rfl
  | y :: L, m => by
    rw [List.foldl_cons]
    rcases mostL_at L (max m y) with h | h
    · rw [h]
      by_cases hy : m ≤ y
      · exact .inr (by rw [Int.max_eq_right hy]; exact List.mem_cons_self)
      · exact .inl (by omega)
    · exact .inr (List.mem_cons_of_mem _ h)
/-- a vehicle of a Cap alone -/
theorem ve_ok {cp : Int} (h : 1 ≤ cp ∧ cp ≤ 100000) : vehCode 0 0 cp 0 0 = 0 := by
  unfold vehCode firstV plB
  simp [h.1, h.2]
theorem fit_most {l : List (Int × Int)} {t : List Rq} (ht : toldP l t = 0) {M : Int} (hM : M = mostL ((List.range l.length).map fun i => onK l t (i + 1))) (h0 : 0 < M) :
    (fitP 0 0 M 0 0 l t).2 = 0 ∧ (1 < M → (fitP 0 0 (M - 1) 0 0 l t).2 = 10 ∧ ∃ k : Nat, k < l.length ∧ (fitP 0 0 (M - 1) 0 0 l t).1 = (k : Int) ∧ onK l t (k + 1) = M) := by
  have hge : ∀ k, k < l.length → onK l t (k + 1) ≤ M := fun k hk => by
    rw [hM]
    exact (mostL_ge _ 0).2 _ (List.mem_map.2 ⟨k, List.mem_range.2 hk, rfl⟩)
  have hat : ∃ k, k < l.length ∧ onK l t (k + 1) = M := by
    rcases mostL_at ((List.range l.length).map fun i => onK l t (i + 1)) 0 with h | h
    · unfold mostL at hM; omega
    · obtain ⟨k, hk, e⟩ := List.mem_map.1 h
      exact ⟨k, List.mem_range.1 hk, by rw [hM]; exact e⟩
  obtain ⟨k0, hk0, e0⟩ := hat
  have hM6 : M ≤ 16000 := by rw [← e0]; exact onK_le ht (by omega)
  refine ⟨?_, fun h1 => ?_⟩
  · unfold fitP
    rw [if_neg (by rw [ve_ok (by omega)]; simp), if_neg (by rw [ht]; simp), fullAt_none (fun j hj => by have := hge j hj; omega)]
  · obtain ⟨k, hk, hp, hn⟩ := first_of (P := fun k => M - 1 < onK l t (k + 1)) k0 (by omega)
    have hkl : k < l.length := by omega
    have hf := fullAt_some (cp := M - 1) (l := l) (t := t) hkl hp hn
    unfold fitP
    rw [if_neg (by rw [ve_ok (by omega)]; simp), if_neg (by rw [ht]; simp), hf]
    exact ⟨rfl, k, hkl, rfl, by have := hge k hkl; omega⟩
end Go.Proofs.Ytaijimckbpplnaa
