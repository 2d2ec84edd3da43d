/-
  Layer 8, plain: a table of loads filled up to six, a route by bytes: it is known, what is on board behind each stop.
-/
import Derived.Test.YtaijimckbpplnaaW8
namespace Go.Proofs.Ytaijimckbpplnaa
open Go.RowKit

/-- a table filled up to six requests -/
def tfP (x : Int) (ns : List Int) : List Rq := tblP ns ++ List.replicate (6 - (tblP ns).length) (rqLd x)
theorem tfP_len (x : Int) (ns : List Int) : 6 ≤ (tfP x ns).length ∧ (tfP x ns).length ≤ 12 := by
  unfold tfP
  have := tblP_len ns
  rw [List.length_append, List.length_replicate]
  omega
theorem rqE_ld {n : Int} (h : 1 ≤ n ∧ n ≤ 1000) : rqE (rqLd n) = 0 := by
  unfold rqE rqCode firstC plB wiB rqLd
  simp [h.1, h.2]
theorem tfP_mem {x : Int} {ns : List Int} (hx : 1 ≤ x ∧ x ≤ 1000) (hr : ∀ n ∈ ns, 0 ≤ n ∧ n < 65536) : ∀ q ∈ tfP x ns, rqE q = 0 ∧ 1 ≤ q 8 ∧ q 8 ≤ 1000 := by
  intro q hq
  have key : ∀ n : Int, 1 ≤ n ∧ n ≤ 1000 → rqE (rqLd n) = 0 ∧ 1 ≤ rqLd n 8 ∧ rqLd n 8 ≤ 1000 := fun n h => ⟨rqE_ld h, h⟩
  unfold tfP at hq
  rcases List.mem_append.1 hq with h | h
  · unfold tblP at h
    obtain ⟨n, hn, rfl⟩ := List.mem_map.1 h
    have := hr n (List.mem_of_mem_take hn)
    have h1 : 0 ≤ n % 1000 := Int.emod_nonneg _ (by omega)
    have h2 : n % 1000 < 1000 := Int.emod_lt_of_pos _ (by omega)
    exact key _ (by omega)
  · rw [List.eq_of_mem_replicate h]
    exact key _ hx
theorem mdP_ok (B : List Int) : (mdP B).length ≤ 12 ∧ Rou (mdP B) ∧ ∀ s ∈ mdP B, 0 ≤ s.1 ∧ s.1 < 6 := by
  obtain ⟨h1, h2, h3⟩ := mdL_ok B (mdN B.length)
  have hk : mdN B.length ≤ 6 := by unfold mdN; omega
  unfold mdP
  refine ⟨by omega, h2, fun s hs => ?_⟩
  have := h3 s hs
  omega
theorem told_ok {l : List (Int × Int)} {t : List Rq} (hR : Rou l) (hl : l.length ≤ 16) (ht : ∀ q ∈ t, rqE q = 0) (hs : ∀ s ∈ l, 0 ≤ s.1 ∧ s.1 < (t.length : Int)) : toldP l t = 0 := by
  unfold toldP
  rw [if_neg (by rw [(route_iff l).2 ⟨hl, hR⟩]; simp)]
  rw [if_neg (by
    simp only [List.any_eq_true, decide_eq_true_eq, not_exists, not_and]
    intro s h
    have := hs s h
    omega)]
  rw [if_neg (by
    simp only [List.any_eq_true, not_exists, not_and]
    intro s h
    have := hs s h
    have hn : s.1.toNat < t.length := by omega
    rw [getD_at t hn, ht _ (List.getElem_mem hn)]
    simp)]
theorem prP_ok {l : List (Int × Int)} {t : List Rq} (h : toldP l t = 0) : prP l t = ((List.range l.length).map (fun i => onK l t (i + 1)), 0) := by
  unfold prP
  rw [if_neg (by simpa using h)]
theorem onK_end {l : List (Int × Int)} (t : List Rq) (h : chkP l = 0) : onK l t l.length = 0 := by
  have h1 : opS (fun r => t.getD r.toNat rqZ0 8) (l.take l.length) = onK l t l.length := opS_eq _ l (okq_of h) _ (Nat.le_refl _)
  rw [← h1, List.take_length]
  have hc := ((chkP_zero l (by have := chkP_len h; omega)).1 h).2
  unfold opS
  have e : ∀ s ∈ l, (if s.2 = 0 ∧ l.count (s.1, 1) = 0 then t.getD s.1.toNat rqZ0 8 else 0) = 0 := fun s hs => by
    rw [if_neg]
    rintro ⟨h2, h3⟩
    have := List.count_pos_iff.2 hs
    have h4 := hc s.1
    rw [show s = (s.1, 0) by rw [← h2]] at this
    omega
  rw [List.map_congr_left e]
  have : ∀ L : List (Int × Int), (L.map fun _ => (0 : Int)).sum = 0 := fun L => by induction L with
    | nil => rfl
    | cons a L ih => simpa using ih
  exact this l
theorem sumL_nonneg : ∀ (L : List Int), (∀ x ∈ L, 0 ≤ x) → 0 ≤ L.sum
  | [], _ => by simp
  | a :: L, h => by
    have := sumL_nonneg L (fun x hx => h x (List.mem_cons_of_mem _ hx))
    have := h a List.mem_cons_self
    simp only [List.sum_cons]
    omega
theorem onK_nonneg {l : List (Int × Int)} {t : List Rq} (h : toldP l t = 0) {k : Nat} (hk : k ≤ l.length) : 0 ≤ onK l t k := by
  obtain ⟨h1, h2⟩ := toldP_zero h
  rw [← sumO_eq t h1 hk]
  unfold sumO
  refine sumL_nonneg _ fun x hx => ?_
  obtain ⟨r, hr, rfl⟩ := List.mem_map.1 hx
  obtain ⟨n, rfl, h3, h4⟩ := open_known h2 hk hr
  rw [Int.toNat_natCast, getD_at t h3]
  omega
theorem onK_le {l : List (Int × Int)} {t : List Rq} (h : toldP l t = 0) {k : Nat} (hk : k ≤ l.length) : onK l t k ≤ 16000 := by
  obtain ⟨h1, h2⟩ := toldP_zero h
  have := onK_bd h2 k hk
  have := chkP_len h1
  omega
end Go.Proofs.Ytaijimckbpplnaa
