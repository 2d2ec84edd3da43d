/-
  Layer 13, plain: where a request is picked up: at one place of one route (what 'holds' counts).
-/
import Derived.Test.YtdmnoogppmckaaaGreatPnS
namespace Go.Proofs.YtdmnoogppmckaaaGreat

/-- a pick of this request -/
def isPk (req : Int) (s : Int × Int) : Bool := s.1 == req && s.2 == 0
theorem pick_row {fl : List Ve} {rows : List Rou2} {t : List Rq} (hP : PlnOk fl rows t) {req : Int} {j : Nat} (hw : whereP rows req = j) : (rows.getD j []).filter (isPk req) = [(req, 0)] ∧ j < rows.length := by
  obtain ⟨j', hj, hw', s, hs, he⟩ := where_some (rows := rows) (req := req) (by omega)
  obtain rfl : j' = j := by omega
  have hg : rows.getD j' [] = rows[j'] := by rw [List.getD_eq_getElem?_getD, List.getElem?_eq_getElem hj]; rfl
  have hR := (hP.right j' (by rw [← hP.len]; exact hj)).2.2.2.1
  have h1 : (rows.getD j' []).filter (isPk req) = ((rows.getD j' []).filter (fun s => s.1 == req)).filter (fun s => s.2 == 0) := by
    rw [List.filter_filter]
    congr 1
    funext s
    unfold isPk
    rw [Bool.and_comm]
  refine ⟨?_, hj⟩
  rw [h1]
  rcases hR req with h2 | ⟨_, h2⟩
  · have hm : s ∈ (rows.getD j' []).filter (fun s => s.1 == req) := List.mem_filter.2 ⟨by rw [hg]; exact hs, by simpa using he⟩
    change (rows.getD j' []).filter (fun s => s.1 == req) = [] at h2
    rw [h2] at hm
    cases hm
  · change (rows.getD j' []).filter (fun s => s.1 == req) = [(req, 0), (req, 1)] at h2
    rw [h2]
    rfl
theorem pick_else {fl : List Ve} {rows : List Rou2} {t : List Rq} (hP : PlnOk fl rows t) {req : Int} {i : Nat} (hi : whereP rows req ≠ i) : (rows.getD i []).filter (isPk req) = [] := by
  rw [List.filter_eq_nil_iff]
  intro s hs hb
  have h1 : s.1 = req := by unfold isPk at hb; simp at hb; exact hb.1
  have := where_one hP hs
  rw [h1] at this
  exact hi this
/-- how many picks, and the last one's route, along a route -/
def pkS (req : Int) (i : Nat) (st : Int × Int) (l : Rou2) : Int × Int := l.foldl (fun st s => if isPk req s then (st.1 + 1, (i : Int)) else st) st
theorem pkS_filter (req : Int) (i : Nat) : ∀ (l : Rou2) (st : Int × Int), pkS req i st l = pkS req i st (l.filter (isPk req))
  | [], _ => rfl
  | s :: r, st => by
    by_cases h : isPk req s = true
    · rw [List.filter_cons_of_pos h]
      show pkS req i _ r = pkS req i _ (r.filter (isPk req))
      exact pkS_filter req i r _
    · rw [List.filter_cons_of_neg h]
      show pkS req i _ r = _
      dsimp only
      rw [if_neg h]
      exact pkS_filter req i r _
theorem pkS_succ (req : Int) (i : Nat) (st : Int × Int) (l : Rou2) {k : Nat} (hk : k < l.length) : pkS req i st (l.take (k + 1)) = if isPk req l[k] then ((pkS req i st (l.take k)).1 + 1, (i : Int)) else pkS req i st (l.take k) := by
  unfold pkS
  rw [List.take_succ_eq_append_getElem hk, List.foldl_append]
  rfl
theorem pkS_bd (req : Int) (i : Nat) : ∀ (l : Rou2) (st : Int × Int), st.1 ≤ (pkS req i st l).1 ∧ (pkS req i st l).1 ≤ st.1 + l.length
  | [], st => by simp [pkS]
  | s :: r, st => by
    have h := pkS_bd req i r (if isPk req s then (st.1 + 1, (i : Int)) else st)
    have e : pkS req i st (s :: r) = pkS req i (if isPk req s then (st.1 + 1, (i : Int)) else st) r := rfl
    rw [e, List.length_cons]
    split at h <;> split <;> simp_all <;> omega
/-- along the first routes -/
def pkR (rows : List Rou2) (req : Int) : Nat → Int × Int
  | 0 => (0, -1)
  | i + 1 => pkS req i (pkR rows req i) (rows.getD i [])
theorem pkR_val {fl : List Ve} {rows : List Rou2} {t : List Rq} (hP : PlnOk fl rows t) (req : Int) : ∀ i, pkR rows req i = if 0 ≤ whereP rows req ∧ whereP rows req < i then (1, whereP rows req) else (0, -1)
  | 0 => by rw [if_neg (by omega)]; rfl
  | i + 1 => by
    show pkS req i (pkR rows req i) (rows.getD i []) = _
    rw [pkR_val hP req i, pkS_filter]
    by_cases h : whereP rows req = i
    · rw [(pick_row hP h).1, if_neg (by omega), if_pos (by omega), h]
      simp [pkS, isPk]
    · rw [pick_else hP h]
      by_cases h2 : 0 ≤ whereP rows req ∧ whereP rows req < i
      · rw [if_pos h2, if_pos (by omega)]; rfl
      · rw [if_neg h2, if_neg (by omega)]; rfl
theorem pkR_all {fl : List Ve} {rows : List Rou2} {t : List Rq} (hP : PlnOk fl rows t) (req : Int) : pkR rows req rows.length = if 0 ≤ whereP rows req then (1, whereP rows req) else (0, -1) := by
  rw [pkR_val hP]
  have := (fstI_ge (fun l : Rou2 => l.any (fun s => s.1 == req)) rows).2
  change whereP rows req < _ at this
  by_cases h : 0 ≤ whereP rows req
  · rw [if_pos ⟨h, this⟩, if_pos h]
  · rw [if_neg (by omega), if_neg h]
/-- the requests met so far -/
def alK (rows : List Rou2) (m : Nat) : List Int := ((List.range m).map (fun i : Nat => (i : Int))).filter fun r => decide (0 ≤ whereP rows r)
theorem alK_succ (rows : List Rou2) (m : Nat) : alK rows (m + 1) = alK rows m ++ (if 0 ≤ whereP rows (m : Int) then [(m : Int)] else []) := by
  unfold alK
  rw [List.range_succ, List.map_append, List.filter_append]
  congr 1
  by_cases h : 0 ≤ whereP rows (m : Int) <;> simp [h]
theorem alK_all (rows : List Rou2) (t : List Rq) : alK rows t.length = allQ rows t := rfl
theorem alK_len (rows : List Rou2) (m : Nat) : (alK rows m).length ≤ m := by
  unfold alK
  refine Nat.le_trans (List.length_filter_le _ _) ?_
  simp
end Go.Proofs.YtdmnoogppmckaaaGreat
