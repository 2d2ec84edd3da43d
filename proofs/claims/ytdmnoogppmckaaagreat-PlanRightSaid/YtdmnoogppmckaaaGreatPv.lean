/-
  Layer 13, plain: the least rise, pair by pair, vehicle by vehicle: what PlanLeast does by hand.
-/
import Derived.Test.YtdmnoogppmckaaaGreatPnS
import Derived.Test.YtdmnoogppmckaaaGreatRg
namespace Go.Proofs.YtdmnoogppmckaaaGreat

def riV (v : Ve) (l : Rou2) (t : List Rq) (req : Int) (a b : Nat) : Int × Int := riseP (v 0) (v 1) (v 2) (v 3) (v 4) l t req a b
theorem rise_long {v : Ve} {l : Rou2} {t : List Rq} {req : Int} {a b : Nat} (h : 14 < l.length) : (riV v l t req a b).2 ≠ 0 := by
  unfold riV riseP
  have h1 : (putP (v 0) (v 1) (v 2) (v 3) (v 4) l t req a b).2.2 ≠ 0 := by
    intro e
    obtain ⟨_, _, hw, _, _, _⟩ := putP_zero e
    unfold withP at hw
    rw [if_pos (by omega)] at hw
    cases hw
  rw [if_pos h1]
  exact h1
section
variable {v : Ve} {l : Rou2} {t : List Rq} {req : Int}
theorem ri_zero (hr : 0 ≤ req ∧ req < t.length) (hn : ∀ s ∈ l, s.1 ≠ req) {a b : Nat} (hab : a ≤ b) (hb : b ≤ l.length) (h : (riV v l t req a b).2 = 0) : RightV v (withL l req a b) t ∧ (riV v l t req a b).1 = riseV v l t req a b := by
  by_cases hl : l.length ≤ 14
  · by_cases hR : RightV v (withL l req a b) t
    · have := (rise_right hab hb hr hn hl hR).2.1
      refine ⟨hR, ?_⟩
      unfold riV
      rw [this]
      rfl
    · exact absurd h (rise_wrong hab hb hr hn hl hR).2
  · exact absurd h (rise_long (by omega))
theorem ri_no (hR : RightV v l t) (hr : 0 ≤ req ∧ req < t.length) (hn : ∀ s ∈ l, s.1 ≠ req) (h : (bestV v l t req).2 ≠ 0) {a b : Nat} (hab : a ≤ b) (hb : b ≤ l.length) : (riV v l t req a b).2 ≠ 0 := fun e =>
  best_no hR hr hn h a b hab hb (ri_zero hr hn hab hb e).1
theorem ri_ok (hR : RightV v l t) (hr : 0 ≤ req ∧ req < t.length) (hn : ∀ s ∈ l, s.1 ≠ req) (h : (bestV v l t req).2 = 0) :
    (∃ a b : Nat, a ≤ b ∧ b ≤ l.length ∧ (riV v l t req a b).2 = 0 ∧ (riV v l t req a b).1 = (bestV v l t req).1.2.2) ∧ ∀ a b : Nat, a ≤ b → b ≤ l.length → (riV v l t req a b).2 = 0 → (bestV v l t req).1.2.2 ≤ (riV v l t req a b).1 := by
  obtain ⟨i, j, hij, hj, hl, hR2, e, _, hm⟩ := best_ok hR hr hn h
  rw [e]
  refine ⟨⟨i, j, hij, hj, ?_⟩, fun a b hab hb h0 => ?_⟩
  · have := (rise_right hij hj hr hn hl hR2).2.1
    unfold riV
    rw [this]
    exact ⟨rfl, rfl⟩
  · obtain ⟨h1, h2⟩ := ri_zero hr hn hab hb h0
    rw [h2]
    exact hm a b hab hb h1
end
/-- the least so far: (-1, 0), or the vehicle and the rise -/
def lsE : Option (Nat × Int) → Int × Int
  | none => (-1, 0)
  | some p => ((p.1 : Int), p.2)
structure ScanI (P0 : Option (Nat × Int)) (i : Nat) (v : Ve) (l : Rou2) (t : List Rq) (req : Int) (a b : Nat) (Q : Option (Nat × Int)) : Prop where
  hit : ∀ a' b' : Nat, a' ≤ b' → b' ≤ l.length → (a' < a ∨ a' = a ∧ b' < b) → (riV v l t req a' b').2 = 0 → ∃ q, Q = some q ∧ q.2 ≤ (riV v l t req a' b').1
  src : Q = P0 ∨ ∃ a' b' : Nat, a' ≤ b' ∧ b' ≤ l.length ∧ (riV v l t req a' b').2 = 0 ∧ Q = some (i, (riV v l t req a' b').1) ∧ ∀ p, P0 = some p → (riV v l t req a' b').1 < p.2
section
variable {P0 Q : Option (Nat × Int)} {i : Nat} {v : Ve} {l : Rou2} {t : List Rq} {req : Int} {a b : Nat}
theorem ScanI.start : ScanI P0 i v l t req 0 0 P0 := ⟨fun a' b' _ _ h => by omega, .inl rfl⟩
theorem ScanI.row (h : ScanI P0 i v l t req a (l.length + 1) Q) : ScanI P0 i v l t req (a + 1) (a + 1) Q := ⟨fun a' b' h1 h2 h3 => h.hit a' b' h1 h2 (by omega), h.src⟩
/-- a pair that is no less, or does not go -/
theorem ScanI.skip (h : ScanI P0 i v l t req a b Q) (hs : (riV v l t req a b).2 = 0 → ∃ q, Q = some q ∧ q.2 ≤ (riV v l t req a b).1) : ScanI P0 i v l t req a (b + 1) Q :=
  ⟨fun a' b' h1 h2 h3 h0 => by
    by_cases e : a' = a ∧ b' = b
    · obtain ⟨rfl, rfl⟩ := e; exact hs h0
    · exact h.hit a' b' h1 h2 (by omega) h0, h.src⟩
/-- a pair that is less -/
theorem ScanI.take (h : ScanI P0 i v l t req a b Q) (hab : a ≤ b) (hb : b ≤ l.length) (h0 : (riV v l t req a b).2 = 0) (hl : ∀ q, Q = some q → (riV v l t req a b).1 < q.2) : ScanI P0 i v l t req a (b + 1) (some (i, (riV v l t req a b).1)) :=
  ⟨fun a' b' h1 h2 h3 h4 => by
    refine ⟨_, rfl, ?_⟩
    by_cases e : a' = a ∧ b' = b
    · obtain ⟨rfl, rfl⟩ := e; exact Int.le_refl _
    · obtain ⟨q, hq, h5⟩ := h.hit a' b' h1 h2 (by omega) h4
      have := hl q hq
      show (riV v l t req a b).1 ≤ _
      omega, .inr ⟨a, b, hab, hb, h0, rfl, fun p hp => by
    rcases h.src with e | ⟨a', b', _, _, _, e, h6⟩
    · exact hl p (e.trans hp)
    · have h7 := hl _ e
      have h8 := h6 p hp
      dsimp only at h7
      omega⟩⟩
end
theorem ScanI.fin {fl : List Ve} {rows : List Rou2} {t : List Rq} {req : Int} {i b : Nat} {Q : Option (Nat × Int)} (hP : PlnOk fl rows t) (hr : 0 ≤ req ∧ req < t.length) (hw : whereP rows req < 0) (hi : i < fl.length)
    (h : ScanI (prcK fl rows t req i) i (fl.getD i ve0) (rows.getD i []) t req ((rows.getD i []).length + 1) b Q) : Q = prcK fl rows t req (i + 1) := by
  have hn : ∀ s ∈ rows.getD i [], s.1 ≠ req := fun s hs => where_getD hw hs
  have hR := hP.right i hi
  show Q = if (bestV (fl.getD i ve0) (rows.getD i []) t req).2 ≠ 0 then prcK fl rows t req i else
      match prcK fl rows t req i with
      | none => some (i, (bestV (fl.getD i ve0) (rows.getD i []) t req).1.2.2)
      | some p => if p.2 ≤ (bestV (fl.getD i ve0) (rows.getD i []) t req).1.2.2 then some p else some (i, (bestV (fl.getD i ve0) (rows.getD i []) t req).1.2.2)
  by_cases hb : (bestV (fl.getD i ve0) (rows.getD i []) t req).2 ≠ 0
  · rw [if_pos hb]
    rcases h.src with e | ⟨a', b', h1, h2, h3, _, _⟩
    · exact e
    · exact absurd h3 (ri_no hR hr hn hb h1 h2)
  · rw [if_neg hb]
    obtain ⟨⟨a, b2, hab, hb2, h0, hm⟩, hle⟩ := ri_ok hR hr hn (by omega)
    obtain ⟨q, hq, hqm⟩ := h.hit a b2 hab hb2 (by omega) h0
    rw [hm] at hqm
    generalize (bestV (fl.getD i ve0) (rows.getD i []) t req).1.2.2 = m at *
    rcases h.src with e | ⟨a', b', h1, h2, h3, e, h6⟩
    · rw [← e, hq]
      dsimp only
      rw [if_pos hqm]
    · have h7 := hle a' b' h1 h2 h3
      rw [e] at hq
      cases hq
      dsimp only at hqm
      have e2 : (riV (fl.getD i ve0) (rows.getD i []) t req a' b').1 = m := by omega
      rw [e, e2]
      rw [e2] at h6
      cases hk : prcK fl rows t req i with
      | none => rfl
      | some p =>
        have := h6 p hk
        dsimp only
        rw [if_neg (by omega)]
end Go.Proofs.YtdmnoogppmckaaaGreat
