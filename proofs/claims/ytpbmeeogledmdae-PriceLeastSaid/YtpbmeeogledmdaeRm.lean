/-
  Layer 8: the sum of what is open is what is on board. Plain.
  Layer 8, the document's: Profile, Fits.
-/
import Derived.Test.YtpbmeeogledmdaeRo
import Derived.Test.YtpbmeeogledmdaeFt
namespace Go.Proofs.Ytpbmeeogledmdae

theorem insD_mem (L : List Int) (n x : Int) : x ∈ insD L n ↔ x = n ∨ x ∈ L := by
  have h := List.takeWhile_append_dropWhile (p := fun x => decide (x < n)) (l := L)
  unfold insD
  constructor
  · intro hx
    rcases List.mem_append.1 hx with h1 | h1
    · exact .inr (by rw [← h]; exact List.mem_append_left _ h1)
    · rcases List.mem_cons.1 h1 with h2 | h2
      · exact .inl h2
      · exact .inr (by rw [← h]; exact List.mem_append_right _ h2)
  · rintro (rfl | hx)
    · simp
    · rw [← h] at hx
      rcases List.mem_append.1 hx with h1 | h1
      · exact List.mem_append_left _ h1
      · exact List.mem_append_right _ (List.mem_cons_of_mem _ h1)
theorem insD_sum (f : Int → Int) (L : List Int) (n : Int) : ((insD L n).map f).sum = f n + (L.map f).sum := by
  have h := congrArg (fun L => (L.map f).sum) (List.takeWhile_append_dropWhile (p := fun x => decide (x < n)) (l := L))
  unfold insD
  simp only [List.map_append, List.sum_append, List.map_cons, List.sum_cons] at h ⊢
  omega
theorem opL_mem (l : List (Int × Int)) (k : Nat) (r : Int) : ∀ i, r ∈ opL l k i → ∃ j, j < i ∧ r = (l.getD j (0, 0)).1
  | 0, h => by simp [opL] at h
  | i + 1, h => by
    rw [opL] at h
    split at h
    · rcases (insD_mem _ _ _).1 h with h | h
      · exact ⟨i, by omega, h⟩
      · obtain ⟨j, hj, e⟩ := opL_mem l k r i h
        exact ⟨j, by omega, e⟩
    · obtain ⟨j, hj, e⟩ := opL_mem l k r i h
      exact ⟨j, by omega, e⟩
theorem opL_sum (f : Int → Int) (l : List (Int × Int)) (k : Nat) : ∀ i, ((opL l k i).map f).sum = ((List.range i).map fun j => if opT l (l.getD j (0, 0)).1 j k = true then f (l.getD j (0, 0)).1 else 0).sum
  | 0 => by simp [opL]
  | i + 1 => by
    rw [opL, List.range_succ, List.map_append, List.sum_append, ← opL_sum f l k i]
    simp only [List.map_cons, List.map_nil, List.sum_cons, List.sum_nil]
    split
    · rw [insD_sum]; omega
    · omega
/-- a row that is a route's beginning -/
def Okq (q : List (Int × Int)) : Prop := ∀ j s, q[j]? = some s → okAt (q.take j) s
theorem okq_take {l : List (Int × Int)} (h : Okq l) (k : Nat) : Okq (l.take k) := by
  intro j s hj
  have hlt := (List.getElem?_eq_some_iff.1 hj).1
  rw [List.length_take] at hlt
  rw [List.getElem?_take_of_lt (by omega)] at hj
  rw [List.take_take, Nat.min_eq_left (by omega)]
  exact h j s hj
theorem opF_count {l : List (Int × Int)} (h : Okq l) (r : Int) (i : Nat) : ∀ j, j ≤ l.length → (opF l r i j).1 = (l.take j).count (r, 0) ∧ (opF l r i j).2.1 = (l.take j).count (r, 1)
  | 0, _ => by simp [opF]
  | j + 1, hj => by
    have hlt : j < l.length := by omega
    obtain ⟨i1, i2⟩ := opF_count h r i j (by omega)
    have hs : l.getD j (0, 0) = l[j] := by rw [List.getD_eq_getElem?_getD, List.getElem?_eq_getElem hlt]; rfl
    have hok := h j l[j] (List.getElem?_eq_getElem hlt)
    simp only [opF, hs]
    rw [count_take_succ l j hlt, count_take_succ l j hlt]
    clear hs
    generalize l[j] = s at hok ⊢
    obtain ⟨x1, x2⟩ := s
    unfold okAt at hok
    dsimp only at hok ⊢
    by_cases hr : x1 = r
    · subst hr
      rw [if_neg (by simp)]
      dsimp only
      rcases hok.2 with ⟨rfl, h1, h2⟩ | ⟨rfl, h1, h2⟩
      · simp [h1, h2]
      · simp [h1, h2, i1]
    · rw [if_pos hr, if_neg (by simp [hr]), if_neg (by simp [hr])]
      simp [i1, i2]
theorem opF_first (l : List (Int × Int)) (r : Int) (i : Nat) : ∀ j, (opF l r i j).2.2 = true ↔ ∀ m, m < j → m < i → (l.getD m (0, 0)).1 ≠ r
  | 0 => by simp [opF]
  | j + 1 => by
    have ih := opF_first l r i j
    simp only [opF]
    by_cases hr : (l.getD j (0, 0)).1 = r
    · rw [if_neg (by simpa using hr)]
      simp only [Bool.and_eq_true, decide_eq_true_eq, ih]
      constructor
      · rintro ⟨h1, h2⟩ m hm hmi
        by_cases e : m = j
        · omega
        · exact h1 m (by omega) hmi
      · intro hh
        refine ⟨fun m hm hmi => hh m (by omega) hmi, ?_⟩
        by_cases hij : i ≤ j
        · exact hij
        · exact absurd hr (hh j (by omega) (by omega))
    · rw [if_pos hr, ih]
      constructor
      · intro hh m hm hmi
        by_cases e : m = j
        · subst e; exact hr
        · exact hh m (by omega) hmi
      · exact fun hh m hm hmi => hh m (by omega) hmi
theorem opT_iff {l : List (Int × Int)} (h : Okq l) {i k : Nat} (hi : i < k) (hk : k ≤ l.length) {s : Int × Int} (hs : l[i]? = some s) :
    opT l s.1 i k = true ↔ s.2 = 0 ∧ (l.take k).count (s.1, 1) = 0 := by
  obtain ⟨c1, c2⟩ := opF_count h s.1 i k hk
  have hf := opF_first l s.1 i k
  have hok := h i s hs
  have hgd : ∀ m (hm : m < l.length), l.getD m (0, 0) = l[m] := fun m hm => by rw [List.getD_eq_getElem?_getD, List.getElem?_eq_getElem hm]; rfl
  unfold opT
  rw [Bool.and_eq_true, Bool.and_eq_true, hf, beq_iff_eq, beq_iff_eq, c1, c2]
  obtain ⟨r, q⟩ := s
  unfold okAt at hok
  dsimp only at hok ⊢
  have hmono := count_take_le l i k (by omega)
  have hle1 : (l.take k).count (r, 0) ≤ 1 := by
    have hc := (opF_count h r i k hk).1
    have := (opF_01 l r i k).1
    omega
  have hat : q = 0 → 1 ≤ (l.take k).count (r, 0) := by
    intro e
    subst e
    have h1 : (l.take k)[i]? = some (r, 0) := by rw [List.getElem?_take_of_lt hi]; exact hs
    exact List.count_pos_iff.2 (List.mem_of_getElem? h1)
  constructor
  · rintro ⟨h1, h2, h3⟩
    rcases hok.2 with ⟨rfl, _, _⟩ | ⟨rfl, h4, _⟩
    · exact ⟨rfl, by omega⟩
    · exfalso
      obtain ⟨m, hm⟩ := List.getElem?_of_mem (List.count_pos_iff.1 (show 0 < (l.take i).count (r, 0) by omega))
      have hmi := (List.getElem?_eq_some_iff.1 hm).1
      rw [List.length_take] at hmi
      rw [List.getElem?_take_of_lt (by omega)] at hm
      refine h1 m (by omega) (by omega) ?_
      rw [List.getD_eq_getElem?_getD, hm]
      rfl
  · rintro ⟨rfl, h3⟩
    rcases hok.2 with ⟨_, h4, h5⟩ | ⟨e, _⟩
    · refine ⟨fun m hm hmi e => ?_, by have := hat rfl; omega, by omega⟩
      have hml : m < l.length := by omega
      rw [hgd m hml] at e
      have hm2 : (l.take i)[m]? = some l[m] := by rw [List.getElem?_take_of_lt hmi, List.getElem?_eq_getElem hml]
      have hokm := (h m l[m] (List.getElem?_eq_getElem hml)).2
      have hin := List.mem_of_getElem? hm2
      have hp : l[m] = (l[m].1, l[m].2) := rfl
      rw [e] at hp
      rcases hokm with ⟨h6, _⟩ | ⟨h6, _⟩
      · rw [h6] at hp; rw [hp] at hin; have := List.count_pos_iff.2 hin; omega
      · rw [h6] at hp; rw [hp] at hin; have := List.count_pos_iff.2 hin; omega
    · omega
theorem sum_pick (q : List (Int × Int)) (x : Int × Int) (v : Int) : (q.map fun u => if u = x then v else 0).sum = (q.count x : Nat) * v := by
  induction q with
  | nil => simp
  | cons y q ih =>
    rw [List.map_cons, List.sum_cons, ih, List.count_cons]
    by_cases h : y = x
    · simp only [h, if_true, beq_self_eq_true]
      rw [Int.natCast_add, Int.add_mul]
      simp
      omega
    · simp [h]
theorem sum_sub (q : List (Int × Int)) (a b : Int × Int → Int) : (q.map fun u => a u - b u).sum = (q.map a).sum - (q.map b).sum := by
  induction q with
  | nil => simp
  | cons y q ih => simp only [List.map_cons, List.sum_cons, ih]; omega
def opS (f : Int → Int) (q : List (Int × Int)) : Int := (q.map fun s => if s.2 = 0 ∧ q.count (s.1, 1) = 0 then f s.1 else 0).sum
def sgF (f : Int → Int) (s : Int × Int) : Int := (if s.2 = 0 then 1 else -1) * f s.1
theorem opS_snoc (f : Int → Int) (q : List (Int × Int)) (s : Int × Int) (h : okAt q s) : opS f (q ++ [s]) = opS f q + sgF f s := by
  obtain ⟨r, k⟩ := s
  unfold okAt at h
  dsimp only at h
  unfold opS
  rw [List.map_append, List.sum_append]
  rcases h.2 with ⟨rfl, h1, h2⟩ | ⟨rfl, h1, h2⟩
  · have e : ∀ u : Int, (q ++ [(r, (0 : Int))]).count (u, 1) = q.count (u, 1) := fun u => by rw [count_snoc, if_neg (by simp)]; rfl
    simp only [e]
    simp [h2, sgF]
  · have e : ∀ u : Int, (q ++ [(r, (1 : Int))]).count (u, 1) = q.count (u, 1) + if r = u then 1 else 0 := fun u => by rw [count_snoc]; by_cases hu : r = u <;> simp [hu]
    simp only [e]
    have hm : (q.map fun s => if s.2 = 0 ∧ (q.count (s.1, 1) + if r = s.1 then 1 else 0) = 0 then f s.1 else 0) = q.map fun s => (if s.2 = 0 ∧ q.count (s.1, 1) = 0 then f s.1 else 0) - (if s = (r, 0) then f r else 0) := by
      refine List.map_congr_left fun s _ => ?_
      obtain ⟨u, v⟩ := s
      dsimp only
      by_cases hu : r = u
      · subst hu
        by_cases hv : v = 0
        · subst hv; simp [h2]
        · simp [hv]
      · have hu' : ¬ u = r := fun e => hu e.symm
        simp [hu, hu']
    rw [hm, sum_sub, sum_pick, h1]
    simp [sgF]
    omega
theorem opS_eq (f : Int → Int) (l : List (Int × Int)) (h : Okq l) : ∀ k, k ≤ l.length → opS f (l.take k) = ((l.take k).map (sgF f)).sum
  | 0, _ => by simp [opS]
  | k + 1, hk => by
    have hlt : k < l.length := by omega
    rw [List.take_succ_eq_append_getElem hlt, opS_snoc f _ _ (h k l[k] (List.getElem?_eq_getElem hlt)), opS_eq f l h k (by omega), List.map_append, List.sum_append]
    simp
/-- the sum of what is open, by numbers of requests -/
def sumO (l : List (Int × Int)) (t : List Rq) (k : Nat) : Int := ((openD l k).map fun r => t.getD r.toNat rqZ0 8).sum
theorem range_sum (g : Int × Int → Int) (l : List (Int × Int)) (h : Nat → Int) : ∀ k, k ≤ l.length → (∀ i s, i < k → l[i]? = some s → h i = g s) → ((List.range k).map h).sum = ((l.take k).map g).sum
  | 0, _, _ => by simp
  | k + 1, hk, he => by
    have hlt : k < l.length := by omega
    rw [List.range_succ, List.take_succ_eq_append_getElem hlt, List.map_append, List.map_append, List.sum_append, List.sum_append, range_sum g l h k (by omega) (fun i s hi => he i s (by omega)), List.map_cons, List.map_cons, he k l[k] (by omega) (List.getElem?_eq_getElem hlt)]
    rfl
theorem okq_of {l : List (Int × Int)} (h : chkP l = 0) : Okq l := fun _ _ hs => ok_at h hs
theorem sumO_eq {l : List (Int × Int)} (t : List Rq) (h : chkP l = 0) {k : Nat} (hk : k ≤ l.length) : sumO l t k = onK l t k := by
  have hq := okq_of h
  unfold sumO openD
  rw [opL_sum, range_sum (fun s => if s.2 = 0 ∧ (l.take k).count (s.1, 1) = 0 then t.getD s.1.toNat rqZ0 8 else 0) l _ k hk]
  · exact opS_eq (fun r => t.getD r.toNat rqZ0 8) l hq k hk
  · intro i s hi hs
    have e : l.getD i (0, 0) = s := by rw [List.getD_eq_getElem?_getD, hs]; rfl
    have := opT_iff hq hi hk hs
    rw [e]
    by_cases hc : s.2 = 0 ∧ (l.take k).count (s.1, 1) = 0
    · rw [if_pos (this.2 hc), if_pos hc]
    · rw [if_neg (fun h => hc (this.1 h)), if_neg hc]
end Go.Proofs.Ytpbmeeogledmdae
namespace Go.Proofs.Ytpbmeeogledmdae
open Go.RowKit

def prP (l : List (Int × Int)) (t : List Rq) : List Int × Int :=
  if toldP l t ≠ 0 then ([], toldP l t) else ((List.range l.length).map (fun i => onK l t (i + 1)), 0)
def PrPost (w : World) (R : List Int × Int) (e : Ending) (w' : World) : Prop := (∃ q d, e = .returned (.tuple #[.slice q R.1.length d, .int .i64 R.2]) ∧ R.1.length ≤ d ∧ Els w' q 1 (R.1.map inV)) ∧ Below w.heap.size w w'
theorem pr_none {w w' : World} {e : Int} (hb : Below w.heap.size w w') : PrPost w ([], e) (.returned (.tuple #[.slice none 0 0, .int .i64 e])) w' := ⟨⟨none, 0, rfl, Nat.le_refl _, els_nil _ _⟩, hb⟩
theorem kk_in {n i : Nat} (h : i < n) : ((i + 1 : Nat) : Int) = if 0 < (if (n : Int) < (i : Int) + 1 then (n : Int) else (i : Int) + 1) then (if (n : Int) < (i : Int) + 1 then (n : Int) else (i : Int) + 1) else 0 := by
  have e : ¬ ((n : Int) < (i : Int) + 1) := by omega
  rw [if_neg e, if_pos (by omega)]
  rfl
theorem sum_bd (f : Int → Int) : ∀ (Q : List Int) (m : Nat), (∀ r ∈ Q, 1 ≤ f r ∧ f r ≤ 1000) → 0 ≤ ((Q.take m).map f).sum ∧ ((Q.take m).map f).sum ≤ 1000 * (m : Int)
  | [], m, _ => by simp; omega
  | r :: Q, 0, _ => by simp
  | r :: Q, m + 1, h => by
    have h1 := h r (by simp)
    have h2 := sum_bd f Q m (fun x hx => h x (by simp [hx]))
    rw [List.take_succ_cons, List.map_cons, List.sum_cons]
    omega
theorem open_known {l : List (Int × Int)} {t : List Rq} (hk : knownS l t) {k : Nat} (hkl : k ≤ l.length) {r : Int} (hr : r ∈ openD l k) : ∃ n : Nat, r = n ∧ ∃ h : n < t.length, 1 ≤ t[n] 8 ∧ t[n] 8 ≤ 1000 := by
  obtain ⟨j, hj, e⟩ := opL_mem l k r k hr
  have hjl : j < l.length := by omega
  have hgd : l.getD j (0, 0) = l[j] := by rw [List.getD_eq_getElem?_getD, List.getElem?_eq_getElem hjl]; rfl
  rw [hgd] at e
  obtain ⟨_, n, h1, h2, h3⟩ := hk l[j] (List.getElem_mem hjl)
  exact ⟨n, e.trans h1, h2, h3⟩


end Go.Proofs.Ytpbmeeogledmdae
