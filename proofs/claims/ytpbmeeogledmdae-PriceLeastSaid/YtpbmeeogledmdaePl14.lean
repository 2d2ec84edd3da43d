/-
  Layer 14, plain: what a plan bids is the least rise of all, and one has just that; which pairs had it so far.
-/
import Derived.Test.YtpbmeeogledmdaePs
namespace Go.Proofs.Ytpbmeeogledmdae
open Go.RowKit

/-- the least of all vehicles: none where no best one is, else none is less -/
theorem prcK_all (fl : List Ve) (rows : List Rou2) (t : List Rq) (req : Int) : ∀ (n : Nat), (prcK fl rows t req n = none → ∀ i, i < n → (bestV (fl.getD i ve0) (rows.getD i []) t req).2 ≠ 0) ∧
    ∀ p, prcK fl rows t req n = some p → ∀ i, i < n → (bestV (fl.getD i ve0) (rows.getD i []) t req).2 = 0 → p.2 ≤ (bestV (fl.getD i ve0) (rows.getD i []) t req).1.2.2
  | 0 => ⟨fun _ i hi => absurd hi (by omega), fun p hp => by cases hp⟩
  | n + 1 => by
    obtain ⟨h1, h2⟩ := prcK_all fl rows t req n
    unfold prcK
    by_cases hb : (bestV (fl.getD n ve0) (rows.getD n []) t req).2 ≠ 0
    · rw [if_pos hb]
      refine ⟨fun h i hi => ?_, fun p hp i hi h0 => ?_⟩
      · by_cases e : i = n
        · subst e; exact hb
        · exact h1 h i (by omega)
      · by_cases e : i = n
        · subst e; exact absurd h0 hb
        · exact h2 p hp i (by omega) h0
    · rw [if_neg hb]
      cases hk : prcK fl rows t req n with
      | none =>
        dsimp only
        refine ⟨fun h => (by cases h), fun p hp i hi h0 => ?_⟩
        cases hp
        by_cases e : i = n
        · subst e; exact Int.le_refl _
        · exact absurd h0 (h1 hk i (by omega))
      | some q =>
        dsimp only
        have hq := h2 q hk
        by_cases hle : q.2 ≤ (bestV (fl.getD n ve0) (rows.getD n []) t req).1.2.2
        · rw [if_pos hle]
          refine ⟨fun h => (by cases h), fun p hp i hi h0 => ?_⟩
          cases hp
          by_cases e : i = n
          · subst e; exact hle
          · exact hq i (by omega) h0
        · rw [if_neg hle]
          refine ⟨fun h => (by cases h), fun p hp i hi h0 => ?_⟩
          cases hp
          by_cases e : i = n
          · subst e; exact Int.le_refl _
          · have := hq i (by omega) h0
            dsimp only
            omega
/-- what a plan bids for a request -/
def bidP (fl : List Ve) (rows : List Rou2) (t : List Rq) (req : Int) : Int := if (prcP fl rows t req).2.2 ≠ 0 then 4294967296 else (prcP fl rows t req).2.1
theorem rise_bd {fl : List Ve} {rows : List Rou2} {t : List Rq} (hP : PlnOk fl rows t) {req : Int} (h : (prcP fl rows t req).2.2 = 0) :
    0 ≤ (prcP fl rows t req).2.1 ∧ (prcP fl rows t req).2.1 ≤ 4194304 ∧ (pputP fl rows t req).2.1 = (prcP fl rows t req).2.1 ∧ (pputP fl rows t req).2.2 = 0 := by
  obtain ⟨i, a, b, hi, hab, hbl, _, hr, hw, hR, h0, _, e1, e2⟩ := put_ok hP h
  have ht := put_tot hP req
  have h1 := totK_bd hP fl.length (Nat.le_refl _)
  have h2 := totK_bd (put_keeps hP req) fl.length (Nat.le_refl _)
  have hm := hP.many
  rw [e2] at ht h2 ⊢
  rw [e1]
  unfold totP at ht
  dsimp only at ht h2 ⊢
  refine ⟨h0, ?_, rfl, rfl⟩
  omega
theorem bid_ok {fl : List Ve} {rows : List Rou2} {t : List Rq} {req : Int} (h : (prcP fl rows t req).2.2 = 0) : bidP fl rows t req = (prcP fl rows t req).2.1 := if_neg (by omega)
theorem bid_none {fl : List Ve} {rows : List Rou2} {t : List Rq} {req : Int} (h : (prcP fl rows t req).2.2 ≠ 0) : bidP fl rows t req = 4294967296 := if_pos h
theorem bid_where {fl : List Ve} {rows : List Rou2} {t : List Rq} {req : Int} (h : 0 ≤ whereP rows req) : bidP fl rows t req = 4294967296 := by
  refine bid_none ?_
  unfold prcP
  split
  · exact (by decide : (8 : Int) ≠ 0)
  · exact (by decide : (13 : Int) ≠ 0)
/-- a pair that goes: it is no less than the bid, and there is one -/
theorem bid_le {fl : List Ve} {rows : List Rou2} {t : List Rq} (hP : PlnOk fl rows t) {req : Int} (hr : 0 ≤ req ∧ req < t.length) (hw : whereP rows req < 0) {i a b : Nat} (hi : i < fl.length) (hab : a ≤ b) (hb : b ≤ (rows.getD i []).length)
    (hR : RightV (fl.getD i ve0) (withL (rows.getD i []) req a b) t) : (prcP fl rows t req).2.2 = 0 ∧ (prcP fl rows t req).2.1 ≤ riseV (fl.getD i ve0) (rows.getD i []) t req a b ∧ 0 ≤ riseV (fl.getD i ve0) (rows.getD i []) t req a b := by
  have hn : ∀ s ∈ rows.getD i [], s.1 ≠ req := fun s hs => where_getD hw hs
  by_cases hz : (bestV (fl.getD i ve0) (rows.getD i []) t req).2 = 0
  · obtain ⟨a', b', _, _, _, _, e, h0, hm⟩ := best_ok (hP.right i hi) hr hn hz
    have hm2 := hm a b hab hb hR
    have hfin : (prcP fl rows t req) = match prcK fl rows t req fl.length with | none => (0, 0, 12) | some p => ((p.1 : Int), p.2, 0) := by
      unfold prcP
      rw [if_neg (by omega), if_neg (by omega)]
      cases prcK fl rows t req fl.length <;> rfl
    cases hk : prcK fl rows t req fl.length with
    | none => exact absurd hz ((prcK_all fl rows t req _).1 hk i hi)
    | some p =>
      rw [hk] at hfin
      have hle := (prcK_all fl rows t req _).2 p hk i hi hz
      rw [e] at hle
      rw [hfin]
      dsimp only at hle ⊢
      exact ⟨rfl, by omega, by omega⟩
  · exact absurd hR (best_no (hP.right i hi) hr hn hz a b hab hb)
/-- one has just that -/
theorem bid_has {fl : List Ve} {rows : List Rou2} {t : List Rq} (hP : PlnOk fl rows t) {req : Int} (h : (prcP fl rows t req).2.2 = 0) : ∃ i a b : Nat, i < fl.length ∧ a ≤ b ∧ b ≤ (rows.getD i []).length ∧
    RightV (fl.getD i ve0) (withL (rows.getD i []) req a b) t ∧ riseV (fl.getD i ve0) (rows.getD i []) t req a b = (prcP fl rows t req).2.1 := by
  obtain ⟨i, a, b, hi, hab, hbl, _, _, _, hR, _, _, e, _⟩ := put_ok hP h
  exact ⟨i, a, b, hi, hab, hbl, hR, by rw [e]⟩
/-- a pair that goes, and has just the bid -/
def HitP (fl : List Ve) (rows : List Rou2) (t : List Rq) (req : Int) (i a b : Nat) : Prop :=
  RightV (fl.getD i ve0) (withL (rows.getD i []) req a b) t ∧ riseV (fl.getD i ve0) (rows.getD i []) t req a b = bidP fl rows t req
/-- one was met so far -/
def MetP (fl : List Ve) (rows : List Rou2) (t : List Rq) (req : Int) (i a b : Nat) : Prop :=
  ∃ i' a' b' : Nat, i' < fl.length ∧ a' ≤ b' ∧ b' ≤ (rows.getD i' []).length ∧ HitP fl rows t req i' a' b' ∧ (i' < i ∨ i' = i ∧ (a' < a ∨ a' = a ∧ b' < b))
section
variable {fl : List Ve} {rows : List Rou2} {t : List Rq} {req : Int}
theorem met_start : ¬ MetP fl rows t req 0 0 0 := by
  rintro ⟨i, a, b, _, _, _, _, h⟩
  omega
theorem met_row {i a : Nat} : MetP fl rows t req i a ((rows.getD i []).length + 1) ↔ MetP fl rows t req i (a + 1) (a + 1) := by
  constructor
  · rintro ⟨i', a', b', h1, h2, h3, h4, h5⟩
    exact ⟨i', a', b', h1, h2, h3, h4, by omega⟩
  · rintro ⟨i', a', b', h1, h2, h3, h4, h5⟩
    refine ⟨i', a', b', h1, h2, h3, h4, ?_⟩
    by_cases e : i' = i
    · subst e; omega
    · omega
theorem met_veh {i b : Nat} : MetP fl rows t req i ((rows.getD i []).length + 1) b ↔ MetP fl rows t req (i + 1) 0 0 := by
  constructor
  · rintro ⟨i', a', b', h1, h2, h3, h4, h5⟩
    exact ⟨i', a', b', h1, h2, h3, h4, by omega⟩
  · rintro ⟨i', a', b', h1, h2, h3, h4, h5⟩
    refine ⟨i', a', b', h1, h2, h3, h4, ?_⟩
    by_cases e : i' = i
    · subst e; omega
    · omega
theorem met_step {i a b : Nat} (hi : i < fl.length) (hab : a ≤ b) (hb : b ≤ (rows.getD i []).length) : MetP fl rows t req i a (b + 1) ↔ MetP fl rows t req i a b ∨ HitP fl rows t req i a b := by
  constructor
  · rintro ⟨i', a', b', h1, h2, h3, h4, h5⟩
    by_cases e : i' = i ∧ a' = a ∧ b' = b
    · obtain ⟨rfl, rfl, rfl⟩ := e; exact .inr h4
    · exact .inl ⟨i', a', b', h1, h2, h3, h4, by omega⟩
  · rintro (⟨i', a', b', h1, h2, h3, h4, h5⟩ | h)
    · exact ⟨i', a', b', h1, h2, h3, h4, by omega⟩
    · exact ⟨i, a, b, hi, hab, hb, h, by omega⟩
/-- behind all: one was met just if there is a bid -/
theorem met_all (hP : PlnOk fl rows t) (hr : 0 ≤ req ∧ req < t.length) (hw : whereP rows req < 0) : MetP fl rows t req fl.length 0 0 ↔ (prcP fl rows t req).2.2 = 0 := by
  constructor
  · rintro ⟨i, a, b, h1, h2, h3, h4, _⟩
    exact (bid_le hP hr hw h1 h2 h3 h4.1).1
  · intro h
    obtain ⟨i, a, b, h1, h2, h3, h4, h5⟩ := bid_has hP h
    exact ⟨i, a, b, h1, h2, h3, ⟨h4, by rw [h5, bid_ok h]⟩, .inl h1⟩
end
theorem put_code (fl : List Ve) (rows : List Rou2) (t : List Rq) (hP : PlnOk fl rows t) (req : Int) : (pputP fl rows t req).2.2 = (prcP fl rows t req).2.2 := by
  by_cases h : (prcP fl rows t req).2.2 = 0
  · rw [(rise_bd hP h).2.2.2, h]
  · rw [put_no h]
/-- where a request was put, it is -/
theorem put_where {fl : List Ve} {rows : List Rou2} {t : List Rq} (hP : PlnOk fl rows t) {req : Int} (h : (prcP fl rows t req).2.2 = 0) : 0 ≤ whereP (pputP fl rows t req).1 req := by
  have hk := put_keeps hP req
  obtain ⟨i, a, b, hi, hab, hb, _, hr, hw, _, _, _, h1, h2⟩ := put_ok hP h
  rw [h2] at hk ⊢
  dsimp only at hk ⊢
  have hil : i < rows.length := by rw [hP.len]; exact hi
  have hg : (rows.set i (withL (rows.getD i []) req a b)).getD i [] = withL (rows.getD i []) req a b := by rw [getD_setS, if_pos ⟨rfl, hil⟩]
  have hwi : whereP (rows.set i (withL (rows.getD i []) req a b)) req = i := where_one hk (s := (req, 0)) (by rw [hg]; exact (withL_in hab hb).2 (.inl rfl))
  rw [hwi]
  omega
end Go.Proofs.Ytpbmeeogledmdae
