/-
  Layer 13, plain: the least rise, pair by pair, vehicle by vehicle: what PlanLeast does by hand.
  Layer 13, plain: where a request is picked up: at one place of one route (what 'holds' counts).
-/
import Derived.Test.YtdmnoogppmckaaaGreatPnS
import Derived.Test.YtdmnoogppmckaaaGreatRg
namespace Go.Proofs.YtdmnoogppmckaaaGreat

def riV (v : Ve) (l : Rou2) (t : List Rq) (req : Int) (a b : Nat) : Int × Int := riseP (v 0) (v 1) (v 2) (v 3) (v 4) l t req a b
theorem rise_long {v : Ve} {l : Rou2} {t : List Rq} {req : Int} {a b : Nat} (h : 14 < l.length) : (riV v l t req a b).2 ≠ 0 := by
  unfold riV riseP
  have h1 : (putP (v 0) (v 1) (v 2) (v 3) (v 4) l t req a b).2.2 ≠ 0 := by
    intro e
    obtain ⟨_, _, hw, _, _, _⟩ := putP_zero e
    unfold withP at hw
    rw [if_pos (by omega)] at hw
    cases hw
  rw [if_pos h1]
  exact h1
section
variable {v : Ve} {l : Rou2} {t : List Rq} {req : Int}
theorem ri_zero (hr : 0 ≤ req ∧ req < t.length) (hn : ∀ s ∈ l, s.1 ≠ req) {a b : Nat} (hab : a ≤ b) (hb : b ≤ l.length) (h : (riV v l t req a b).2 = 0) : RightV v (withL l req a b) t ∧ (riV v l t req a b).1 = riseV v l t req a b := by
  by_cases hl : l.length ≤ 14
  · by_cases hR : RightV v (withL l req a b) t
    · have := (rise_right hab hb hr hn hl hR).2.1
      refine ⟨hR, ?_⟩
      unfold riV
      rw [this]
      rfl
    · exact absurd h (rise_wrong hab hb hr hn hl hR).2
  · exact absurd h (rise_long (by omega))
theorem ri_no (hR : RightV v l t) (hr : 0 ≤ req ∧ req < t.length) (hn : ∀ s ∈ l, s.1 ≠ req) (h : (bestV v l t req).2 ≠ 0) {a b : Nat} (hab : a ≤ b) (hb : b ≤ l.length) : (riV v l t req a b).2 ≠ 0 := fun e =>
  best_no hR hr hn h a b hab hb (ri_zero hr hn hab hb e).1
theorem ri_ok (hR : RightV v l t) (hr : 0 ≤ req ∧ req < t.length) (hn : ∀ s ∈ l, s.1 ≠ req) (h : (bestV v l t req).2 = 0) :
    (∃ a b : Nat, a ≤ b ∧ b ≤ l.length ∧ (riV v l t req a b).2 = 0 ∧ (riV v l t req a b).1 = (bestV v l t req).1.2.2) ∧ ∀ a b : Nat, a ≤ b → b ≤ l.length → (riV v l t req a b).2 = 0 → (bestV v l t req).1.2.2 ≤ (riV v l t req a b).1 := by
  obtain ⟨i, j, hij, hj, hl, hR2, e, _, hm⟩ := best_ok hR hr hn h
  rw [e]
  refine ⟨⟨i, j, hij, hj, ?_⟩, fun a b hab hb h0 => ?_⟩
  · have := (rise_right hij hj hr hn hl hR2).2.1
    unfold riV
    rw [this]
    exact ⟨rfl, rfl⟩
  · obtain ⟨h1, h2⟩ := ri_zero hr hn hab hb h0
    rw [h2]
    exact hm a b hab hb h1
end
/-- the least so far: (-1, 0), or the vehicle and the rise -/
def lsE : Option (Nat × Int) → Int × Int
  | none => (-1, 0)
  | some p => ((p.1 : Int), p.2)
structure ScanI (P0 : Option (Nat × Int)) (i : Nat) (v : Ve) (l : Rou2) (t : List Rq) (req : Int) (a b : Nat) (Q : Option (Nat × Int)) : Prop where
  hit : ∀ a' b' : Nat, a' ≤ b' → b' ≤ l.length → (a' < a ∨ a' = a ∧ b' < b) → (riV v l t req a' b').2 = 0 → ∃ q, Q = some q ∧ q.2 ≤ (riV v l t req a' b').1
  src : Q = P0 ∨ ∃ a' b' : Nat, a' ≤ b' ∧ b' ≤ l.length ∧ (riV v l t req a' b').2 = 0 ∧ Q = some (i, (riV v l t req a' b').1) ∧ ∀ p, P0 = some p → (riV v l t req a' b').1 < p.2
section
variable {P0 Q : Option (Nat × Int)} {i : Nat} {v : Ve} {l : Rou2} {t : List Rq} {req : Int} {a b : Nat}
theorem ScanI.start : ScanI P0 i v l t req 0 0 P0 := ⟨fun a' b' _ _ h => by omega, .inl rfl⟩
theorem ScanI.row (h : ScanI P0 i v l t req a (l.length + 1) Q) : ScanI P0 i v l t req (a + 1) (a + 1) Q := ⟨fun a' b' h1 h2 h3 => h.hit a' b' h1 h2 (by omega), h.src⟩
/-- a pair that is no less, or does not go -/
theorem ScanI.skip (h : ScanI P0 i v l t req a b Q) (hs : (riV v l t req a b).2 = 0 → ∃ q, Q = some q ∧ q.2 ≤ (riV v l t req a b).1) : ScanI P0 i v l t req a (b + 1) Q :=
  ⟨fun a' b' h1 h2 h3 h0 => by
    by_cases e : a' = a ∧ b' = b
    · obtain ⟨rfl, rfl⟩ := e; exact hs h0
    · exact h.hit a' b' h1 h2 (by omega) h0, h.src⟩
/-- a pair that is less -/
theorem ScanI.take (h : ScanI P0 i v l t req a b Q) (hab : a ≤ b) (hb : b ≤ l.length) (h0 : (riV v l t req a b).2 = 0) (hl : ∀ q, Q = some q → (riV v l t req a b).1 < q.2) : ScanI P0 i v l t req a (b + 1) (some (i, (riV v l t req a b).1)) :=
  ⟨fun a' b' h1 h2 h3 h4 => by
    refine ⟨_, rfl, ?_⟩
    by_cases e : a' = a ∧ b' = b
    · obtain ⟨rfl, rfl⟩ := e; exact Int.le_refl _
    · obtain ⟨q, hq, h5⟩ := h.hit a' b' h1 h2 (by omega) h4
      have := hl q hq
      show (riV v l t req a b).1 ≤ _
      omega, .inr ⟨a, b, hab, hb, h0, rfl, fun p hp => by
    rcases h.src with e | ⟨a', b', _, _, _, e, h6⟩
    · exact hl p (e.trans hp)
    · have h7 := hl _ e
      have h8 := h6 p hp
      dsimp only at h7
      omega⟩⟩
end
theorem ScanI.fin {fl : List Ve} {rows : List Rou2} {t : List Rq} {req : Int} {i b : Nat} {Q : Option (Nat × Int)} (hP : PlnOk fl rows t) (hr : 0 ≤ req ∧ req < t.length) (hw : whereP rows req < 0) (hi : i < fl.length)
    (h : ScanI (prcK fl rows t req i) i (fl.getD i ve0) (rows.getD i []) t req ((rows.getD i []).length + 1) b Q) : Q = prcK fl rows t req (i + 1) := by
  have hn : ∀ s ∈ rows.getD i [], s.1 ≠ req := fun s hs => where_getD hw hs
  have hR := hP.right i hi
  show Q = if (bestV (fl.getD i ve0) (rows.getD i []) t req).2 ≠ 0 then prcK fl rows t req i else
      match prcK fl rows t req i with
      | none => some (i, (bestV (fl.getD i ve0) (rows.getD i []) t req).1.2.2)
      | some p => if p.2 ≤ (bestV (fl.getD i ve0) (rows.getD i []) t req).1.2.2 then some p else some (i, (bestV (fl.getD i ve0) (rows.getD i []) t req).1.2.2)
  by_cases hb : (bestV (fl.getD i ve0) (rows.getD i []) t req).2 ≠ 0
  · rw [if_pos hb]
    rcases h.src with e | ⟨a', b', h1, h2, h3, _, _⟩
    · exact e
    · exact absurd h3 (ri_no hR hr hn hb h1 h2)
  · rw [if_neg hb]
    obtain ⟨⟨a, b2, hab, hb2, h0, hm⟩, hle⟩ := ri_ok hR hr hn (by omega)
    obtain ⟨q, hq, hqm⟩ := h.hit a b2 hab hb2 (by omega) h0
    rw [hm] at hqm
    generalize (bestV (fl.getD i ve0) (rows.getD i []) t req).1.2.2 = m at *
    rcases h.src with e | ⟨a', b', h1, h2, h3, e, h6⟩
    · rw [← e, hq]
      dsimp only
      rw [if_pos hqm]
    · have h7 := hle a' b' h1 h2 h3
      rw [e] at hq
      cases hq
      dsimp only at hqm
      have e2 : (riV (fl.getD i ve0) (rows.getD i []) t req a' b').1 = m := by omega
      rw [e, e2]
      rw [e2] at h6
      cases hk : prcK fl rows t req i with
      | none => rfl
      | some p =>
        have := h6 p hk
        dsimp only
        rw [if_neg (by omega)]
end Go.Proofs.YtdmnoogppmckaaaGreat
namespace Go.Proofs.YtdmnoogppmckaaaGreat

/-- a pick of this request -/
def isPk (req : Int) (s : Int × Int) : Bool := s.1 == req && s.2 == 0
theorem pick_row {fl : List Ve} {rows : List Rou2} {t : List Rq} (hP : PlnOk fl rows t) {req : Int} {j : Nat} (hw : whereP rows req = j) : (rows.getD j []).filter (isPk req) = [(req, 0)] ∧ j < rows.length := by
  obtain ⟨j', hj, hw', s, hs, he⟩ := where_some (rows := rows) (req := req) (by omega)
  obtain rfl : j' = j := by omega
  have hg : rows.getD j' [] = rows[j'] := by rw [List.getD_eq_getElem?_getD, List.getElem?_eq_getElem hj]; rfl
  have hR := (hP.right j' (by rw [← hP.len]; exact hj)).2.2.2.1
  have h1 : (rows.getD j' []).filter (isPk req) = ((rows.getD j' []).filter (fun s => s.1 == req)).filter (fun s => s.2 == 0) := by
    rw [List.filter_filter]
    congr 1
    funext s
    unfold isPk
    rw [Bool.and_comm]
  refine ⟨?_, hj⟩
  rw [h1]
  rcases hR req with h2 | ⟨_, h2⟩
  · have hm : s ∈ (rows.getD j' []).filter (fun s => s.1 == req) := List.mem_filter.2 ⟨by rw [hg]; exact hs, by simpa using he⟩
    change (rows.getD j' []).filter (fun s => s.1 == req) = [] at h2
    rw [h2] at hm
    cases hm
  · change (rows.getD j' []).filter (fun s => s.1 == req) = [(req, 0), (req, 1)] at h2
    rw [h2]
    rfl
theorem pick_else {fl : List Ve} {rows : List Rou2} {t : List Rq} (hP : PlnOk fl rows t) {req : Int} {i : Nat} (hi : whereP rows req ≠ i) : (rows.getD i []).filter (isPk req) = [] := by
  rw [List.filter_eq_nil_iff]
  intro s hs hb
  have h1 : s.1 = req := by unfold isPk at hb; simp at hb; exact hb.1
  have := where_one hP hs
  rw [h1] at this
  exact hi this
/-- how many picks, and the last one's route, along a route -/
def pkS (req : Int) (i : Nat) (st : Int × Int) (l : Rou2) : Int × Int := l.foldl (fun st s => if isPk req s then (st.1 + 1, (i : Int)) else st) st
theorem pkS_filter (req : Int) (i : Nat) : ∀ (l : Rou2) (st : Int × Int), pkS req i st l = pkS req i st (l.filter (isPk req))
  | [], _ => rfl
  | s :: r, st => by
    by_cases h : isPk req s = true
    · rw [List.filter_cons_of_pos h]
      show pkS req i _ r = pkS req i _ (r.filter (isPk req))
      exact pkS_filter req i r _
    · rw [List.filter_cons_of_neg h]
      show pkS req i _ r = _
      dsimp only
      rw [if_neg h]
      exact pkS_filter req i r _
theorem pkS_succ (req : Int) (i : Nat) (st : Int × Int) (l : Rou2) {k : Nat} (hk : k < l.length) : pkS req i st (l.take (k + 1)) = if isPk req l[k] then ((pkS req i st (l.take k)).1 + 1, (i : Int)) else pkS req i st (l.take k) := by
  unfold pkS
  rw [List.take_succ_eq_append_getElem hk, List.foldl_append]
  rfl
theorem pkS_bd (req : Int) (i : Nat) : ∀ (l : Rou2) (st : Int × Int), st.1 ≤ (pkS req i st l).1 ∧ (pkS req i st l).1 ≤ st.1 + l.length
  | [], st => by simp [pkS]
  | s :: r, st => by
    have h := pkS_bd req i r (if isPk req s then (st.1 + 1, (i : Int)) else st)
    have e : pkS req i st (s :: r) = pkS req i (if isPk req s then (st.1 + 1, (i : Int)) else st) r := rfl
    rw [e, List.length_cons]
    split at h <;> split <;> simp_all <;> omega
/-- along the first routes -/
def pkR (rows : List Rou2) (req : Int) : Nat → Int × Int
  | 0 => (0, -1)
  | i + 1 => pkS req i (pkR rows req i) (rows.getD i [])
theorem pkR_val {fl : List Ve} {rows : List Rou2} {t : List Rq} (hP : PlnOk fl rows t) (req : Int) : ∀ i, pkR rows req i = if 0 ≤ whereP rows req ∧ whereP rows req < i then (1, whereP rows req) else (0, -1)
  | 0 => by rw [if_neg (by omega)]; rfl
  | i + 1 => by
    show pkS req i (pkR rows req i) (rows.getD i []) = _
    rw [pkR_val hP req i, pkS_filter]
    by_cases h : whereP rows req = i
    · rw [(pick_row hP h).1, if_neg (by omega), if_pos (by omega), h]
      simp [pkS, isPk]
    · rw [pick_else hP h]
      by_cases h2 : 0 ≤ whereP rows req ∧ whereP rows req < i
      · rw [if_pos h2, if_pos (by omega)]; rfl
      · rw [if_neg h2, if_neg (by omega)]; rfl
theorem pkR_all {fl : List Ve} {rows : List Rou2} {t : List Rq} (hP : PlnOk fl rows t) (req : Int) : pkR rows req rows.length = if 0 ≤ whereP rows req then (1, whereP rows req) else (0, -1) := by
  rw [pkR_val hP]
  have := (fstI_ge (fun l : Rou2 => l.any (fun s => s.1 == req)) rows).2
  change whereP rows req < _ at this
  by_cases h : 0 ≤ whereP rows req
  · rw [if_pos ⟨h, this⟩, if_pos h]
  · rw [if_neg (by omega), if_neg h]
/-- the requests met so far -/
def alK (rows : List Rou2) (m : Nat) : List Int := ((List.range m).map (fun i : Nat => (i : Int))).filter fun r => decide (0 ≤ whereP rows r)
theorem alK_succ (rows : List Rou2) (m : Nat) : alK rows (m + 1) = alK rows m ++ (if 0 ≤ whereP rows (m : Int) then [(m : Int)] else []) := by
  unfold alK
  rw [List.range_succ, List.map_append, List.filter_append]
  congr 1
  by_cases h : 0 ≤ whereP rows (m : Int) <;> simp [h]
theorem alK_all (rows : List Rou2) (t : List Rq) : alK rows t.length = allQ rows t := rfl
theorem alK_len (rows : List Rou2) (m : Nat) : (alK rows m).length ≤ m := by
  unfold alK
  refine Nat.le_trans (List.length_filter_le _ _) ?_
  simp
end Go.Proofs.YtdmnoogppmckaaaGreat
