/-
  Layer 13, plain: what a plan is, and what is put, taken and priced. Of no program's code.
  Layer 13, plain: what the best way is; a plan stays one. Of no program's code.
  Layer 13, plain: a plan stays one, whatever is put and taken; its total. Of no program's code.
-/
import Derived.Test.YtpbmeeogledmdaeCaP
import Derived.Test.YtpbmeeogledmdaeOpn
import Derived.Test.YtpbmeeogledmdaeRg
import Derived.Test.YtpbmeeogledmdaeWt
namespace Go.Proofs.Ytpbmeeogledmdae
open Go.RowKit

abbrev Rou2 := List (Int × Int)
def ve0 : Ve := fun _ => 0
def bestV (v : Ve) (l : Rou2) (t : List Rq) (req : Int) : Wy × Int := bestP (v 0) (v 1) (v 2) (v 3) (v 4) l t req
def cputV (v : Ve) (l : Rou2) (t : List Rq) (req : Int) : Rou2 × Int × Int := cputP (v 0) (v 1) (v 2) (v 3) (v 4) l t req
def timV (v : Ve) (l : Rou2) (t : List Rq) : Tms × Int × Int := tmP (v 0) (v 1) (v 2) (v 3) (v 4) l t
def RightV (v : Ve) (l : Rou2) (t : List Rq) : Prop := RightP (v 0) (v 1) (v 2) (v 3) (v 4) l t
def vehV (v : Ve) : Int := vehCode (v 0) (v 1) (v 2) (v 3) (v 4)
/-- the first route that has a request, or -1 -/
def whereP (rows : List Rou2) (req : Int) : Int := fstI (fun l => l.any (fun s => s.1 == req)) rows
theorem fstI_ge {α : Type} (P : α → Bool) (l : List α) : -1 ≤ fstI P l ∧ fstI P l < l.length := by
  unfold fstI
  cases h : l.findIdx? P with
  | none => dsimp only; omega
  | some k =>
    have := (List.findIdx?_eq_some_iff_getElem.1 h).1
    dsimp only
    omega
theorem where_some {rows : List Rou2} {req : Int} (h : 0 ≤ whereP rows req) : ∃ (i : Nat) (hi : i < rows.length), whereP rows req = i ∧ ∃ s ∈ rows[i], s.1 = req := by
  unfold whereP fstI at h ⊢
  cases hf : rows.findIdx? (fun l => l.any (fun s => s.1 == req)) with
  | none => rw [hf] at h; dsimp only at h; omega
  | some k =>
    obtain ⟨hk, h1, _⟩ := List.findIdx?_eq_some_iff_getElem.1 hf
    obtain ⟨s, hs, e⟩ := List.any_eq_true.1 h1
    exact ⟨k, hk, rfl, s, hs, by simpa using e⟩
theorem where_none {rows : List Rou2} {req : Int} (h : whereP rows req < 0) : ∀ l ∈ rows, ∀ s ∈ l, s.1 ≠ req := by
  unfold whereP fstI at h
  cases hf : rows.findIdx? (fun l => l.any (fun s => s.1 == req)) with
  | none =>
    intro l hl s hs e
    have := List.findIdx?_eq_none_iff.1 hf l hl
    rw [List.any_eq_false] at this
    exact this s hs (by simpa using e)
  | some k => rw [hf] at h; dsimp only at h; omega
/-- the best of the first k vehicles -/
def prcK (fl : List Ve) (rows : List Rou2) (t : List Rq) (req : Int) : Nat → Option (Nat × Int)
  | 0 => none
  | k + 1 => if (bestV (fl.getD k ve0) (rows.getD k []) t req).2 ≠ 0 then prcK fl rows t req k else
      match prcK fl rows t req k with
      | none => some (k, (bestV (fl.getD k ve0) (rows.getD k []) t req).1.2.2)
      | some p => if p.2 ≤ (bestV (fl.getD k ve0) (rows.getD k []) t req).1.2.2 then some p else some (k, (bestV (fl.getD k ve0) (rows.getD k []) t req).1.2.2)
theorem prcK_lt (fl : List Ve) (rows : List Rou2) (t : List Rq) (req : Int) : ∀ (k : Nat) (p : Nat × Int), prcK fl rows t req k = some p → p.1 < k ∧ (bestV (fl.getD p.1 ve0) (rows.getD p.1 []) t req).2 = 0 ∧ p.2 = (bestV (fl.getD p.1 ve0) (rows.getD p.1 []) t req).1.2.2
  | 0, p, h => by cases h
  | k + 1, p, h => by
    unfold prcK at h
    by_cases h1 : (bestV (fl.getD k ve0) (rows.getD k []) t req).2 ≠ 0
    · rw [if_pos h1] at h
      have := prcK_lt fl rows t req k p h
      exact ⟨by omega, this.2⟩
    · rw [if_neg h1] at h
      cases hq : prcK fl rows t req k with
      | none => rw [hq] at h; cases h; exact ⟨by dsimp only; omega, by dsimp only; omega, rfl⟩
      | some q =>
        rw [hq] at h
        dsimp only at h
        by_cases h2 : q.2 ≤ (bestV (fl.getD k ve0) (rows.getD k []) t req).1.2.2
        · rw [if_pos h2] at h
          have e := Option.some.inj h
          have := prcK_lt fl rows t req k q hq
          rw [← e]
          exact ⟨by omega, this.2⟩
        · rw [if_neg h2] at h; cases h; exact ⟨by dsimp only; omega, by dsimp only; omega, rfl⟩
/-- the vehicle, the rise, or why there is none -/
def prcP (fl : List Ve) (rows : List Rou2) (t : List Rq) (req : Int) : Int × Int × Int :=
  if req < 0 ∨ (t.length : Int) ≤ req then (0, 0, 8)
  else if 0 ≤ whereP rows req then (0, 0, 13)
  else match prcK fl rows t req fl.length with
    | none => (0, 0, 12)
    | some p => ((p.1 : Int), p.2, 0)
/-- the routes with a request more; the rise; or why not -/
def pputP (fl : List Ve) (rows : List Rou2) (t : List Rq) (req : Int) : List Rou2 × Int × Int :=
  if (prcP fl rows t req).2.2 ≠ 0 then (rows, 0, (prcP fl rows t req).2.2)
  else (rows.set (prcP fl rows t req).1.toNat (cputV (fl.getD (prcP fl rows t req).1.toNat ve0) (rows.getD (prcP fl rows t req).1.toNat []) t req).1,
    (cputV (fl.getD (prcP fl rows t req).1.toNat ve0) (rows.getD (prcP fl rows t req).1.toNat []) t req).2)
def ptakP (rows : List Rou2) (req : Int) : List Rou2 × Int :=
  if whereP rows req < 0 then (rows, 12) else (rows.set (whereP rows req).toNat (woP (rows.getD (whereP rows req).toNat []) req), 0)
/-- a vehicle's time on tour -/
def totV (v : Ve) (l : Rou2) (t : List Rq) : Int := (timV v l t).2.1 - v 3
def totK (fl : List Ve) (rows : List Rou2) (t : List Rq) : Nat → Int
  | 0 => 0
  | k + 1 => totK fl rows t k + totV (fl.getD k ve0) (rows.getD k []) t
def totP (fl : List Ve) (rows : List Rou2) (t : List Rq) : Int := totK fl rows t fl.length
def allQ (rows : List Rou2) (t : List Rq) : List Int := ((List.range t.length).map (fun i : Nat => (i : Int))).filter fun r => decide (0 ≤ whereP rows r)
/-- what a plan is -/
structure PlnOk (fl : List Ve) (rows : List Rou2) (t : List Rq) : Prop where
  len : rows.length = fl.length
  many : 1 ≤ fl.length ∧ fl.length ≤ 4
  veh : ∀ v ∈ fl, vehV v = 0
  req : ∀ q ∈ t, rqE q = 0
  right : ∀ (i : Nat), i < fl.length → RightV (fl.getD i ve0) (rows.getD i []) t
  one : ∀ (i j : Nat) (s s' : Int × Int), s ∈ rows.getD i [] → s' ∈ rows.getD j [] → s.1 = s'.1 → i = j
end Go.Proofs.Ytpbmeeogledmdae
namespace Go.Proofs.Ytpbmeeogledmdae
open Go.RowKit

theorem told_okQ {l : List (Int × Int)} {t : List Rq} (hR : Rou l) (hl : l.length ≤ 16) (ht : ∀ q ∈ t, rqE q = 0) (hs : ∀ s ∈ l, 0 ≤ s.1 ∧ s.1 < (t.length : Int)) : toldP l t = 0 := by
  unfold toldP
  rw [if_neg (by rw [(route_iff l).2 ⟨hl, hR⟩]; simp)]
  rw [if_neg (by
    simp only [List.any_eq_true, decide_eq_true_eq, not_exists, not_and]
    intro s h
    have := hs s h
    omega)]
  rw [if_neg (by
    simp only [List.any_eq_true, not_exists, not_and]
    intro s h
    have := hs s h
    have hn : s.1.toNat < t.length := by omega
    rw [getD_at t hn, ht _ (List.getElem_mem hn)]
    simp)]
theorem prs_mem {n : Nat} (hn : n ≤ 16) (p : Int × Int) : p ∈ prs n ↔ ∃ i j : Nat, i ≤ j ∧ j ≤ n ∧ p = ((i : Int), (j : Int)) := by
  unfold prs
  rw [if_neg (by omega), show ((n : Int) + 1).toNat = n + 1 by omega]
  unfold prsI
  rw [List.mem_flatMap]
  constructor
  · rintro ⟨i, hi, h⟩
    unfold rowP at h
    obtain ⟨k, hk, rfl⟩ := List.mem_map.1 h
    have h1 := List.mem_range.1 hi
    have h2 := List.mem_range.1 hk
    exact ⟨i, i + k, by omega, by omega, rfl⟩
  · rintro ⟨i, j, hij, hj, rfl⟩
    refine ⟨i, List.mem_range.2 (by omega), ?_⟩
    unfold rowP
    refine List.mem_map.2 ⟨j - i, List.mem_range.2 (by omega), ?_⟩
    rw [show i + (j - i) = j by omega]
theorem wys_mem {x y cp st en : Int} {l : List (Int × Int)} {t : List Rq} {req : Int} {ps : List (Int × Int)} {u : Wy} :
    u ∈ wysP x y cp st en l t req ps ↔ ∃ p ∈ ps, (riseP x y cp st en l t req p.1 p.2).2 = 0 ∧ u = (p.1, p.2, (riseP x y cp st en l t req p.1 p.2).1) := by
  unfold wysP
  rw [List.mem_flatMap]
  constructor
  · rintro ⟨p, hp, h⟩
    unfold wyOf at h
    by_cases h0 : (riseP x y cp st en l t req p.1 p.2).2 = 0
    · rw [if_pos h0] at h
      exact ⟨p, hp, h0, by simpa using h⟩
    · rw [if_neg h0] at h
      cases h
  · rintro ⟨p, hp, h0, rfl⟩
    exact ⟨p, hp, by unfold wyOf; rw [if_pos h0]; exact List.mem_cons_self⟩
theorem lstW_le : ∀ (r : List Wy) (b : Wy), (lstW b r).2.2 ≤ b.2.2 ∧ ∀ u ∈ r, (lstW b r).2.2 ≤ u.2.2
  | [], b => ⟨Int.le_refl _, fun u h => by cases h⟩
  | y :: r, b => by
    show (lstW (if y.2.2 < b.2.2 then y else b) r).2.2 ≤ b.2.2 ∧ ∀ u ∈ y :: r, (lstW (if y.2.2 < b.2.2 then y else b) r).2.2 ≤ u.2.2
    obtain ⟨h1, h2⟩ := lstW_le r (if y.2.2 < b.2.2 then y else b)
    have h3 : (if y.2.2 < b.2.2 then y else b).2.2 ≤ b.2.2 ∧ (if y.2.2 < b.2.2 then y else b).2.2 ≤ y.2.2 := by
      split <;> constructor <;> omega
    refine ⟨by omega, fun u hu => ?_⟩
    rcases List.mem_cons.1 hu with rfl | hu
    · omega
    · exact h2 u hu
/-- a route with a request more is one -/
theorem rou_withL {l : List (Int × Int)} (h : Rou l) {req : Int} (hr : 0 ≤ req) (hn : ∀ s ∈ l, s.1 ≠ req) {i j : Nat} (hij : i ≤ j) (hj : j ≤ l.length) : Rou (withL l req i j) := by
  rw [withL_ins l req hij hj]
  exact rou_ins h hr hn (by omega) (by omega)
theorem withL_in {l : List (Int × Int)} {req : Int} {i j : Nat} (hij : i ≤ j) (hj : j ≤ l.length) {s : Int × Int} : s ∈ withL l req i j ↔ s = (req, 0) ∨ s = (req, 1) ∨ s ∈ l := by
  rw [withL_ins l req hij hj, insS_mem, insS_mem]
  constructor
  · rintro (h | h | h)
    · exact .inr (.inl h)
    · exact .inl h
    · exact .inr (.inr h)
  · rintro (h | h | h)
    · exact .inr (.inl h)
    · exact .inl h
    · exact .inr (.inr h)
theorem wr_zero {x y cp st en : Int} {l : List (Int × Int)} {t : List Rq} (hv : vehCode x y cp st en = 0) (ht : ∀ q ∈ t, rqE q = 0) (hl : l.length ≤ 16) (hR : Rou l) (hT : ∀ s ∈ l, s.1 < t.length) : wrP x y cp st en l t = 0 := by
  have hc : chkP l = 0 := (route_iff l).2 ⟨hl, hR⟩
  unfold wrP
  rw [if_neg (by omega), if_neg (by simpa using ht), if_neg (by omega), if_neg]
  simp only [Bool.not_eq_true, List.any_eq_false, Bool.not_eq_eq_eq_not]
  intro s hs
  have h1 := rou_mem hR hs
  have h2 := hT s hs
  unfold ptB ptOf
  rw [if_neg (by omega)]
  rcases h1.2.1 with e | e
  · rw [if_pos e]; simp
  · rw [if_neg (by omega), if_pos e]; simp
/-- why a request can't be put in at a place: late, or full -/
theorem rise_code {x y cp st en : Int} {l : List (Int × Int)} {t : List Rq} {req : Int} {i j : Nat} (hij : i ≤ j) (hj : j ≤ l.length) (hr : 0 ≤ req ∧ req < t.length) (hn : ∀ s ∈ l, s.1 ≠ req) (hl : l.length ≤ 14) (h : RightP x y cp st en l t) :
    (riseP x y cp st en l t req i j).2 = 0 ∨ (riseP x y cp st en l t req i j).2 = 10 ∨ (riseP x y cp st en l t req i j).2 = 9 := by
  have h0 := ((right_iff x y cp st en l t).1 h).1
  have hp := putP_right (x := x) (y := y) (cp := cp) (st := st) (en := en) hij hj hr hn hl h0
  obtain ⟨hv, ht, _, hR, hT, _, _⟩ := h
  have hR' := rou_withL hR hr.1 hn hij hj
  have hl' : (withL l req i j).length ≤ 16 := by rw [withL_len l req hij hj]; omega
  have hT' : ∀ s ∈ withL l req i j, 0 ≤ s.1 ∧ s.1 < (t.length : Int) := fun s hs => by
    rcases (withL_in hij hj).1 hs with rfl | rfl | hs
    · exact hr
    · exact hr
    · exact ⟨(rou_mem hR hs).1, hT s hs⟩
  have hto := told_okQ hR' hl' ht hT'
  have hw := wr_zero (x := x) (y := y) (cp := cp) (st := st) (en := en) hv ht hl' hR' (fun s hs => (hT' s hs).2)
  unfold riseP
  rw [hp]
  dsimp only
  rw [if_neg (by simp)]
  generalize withL l req i j = m at *
  have hf : (fitP x y cp st en m t).2 = 0 ∨ (fitP x y cp st en m t).2 = 10 := by
    unfold fitP
    rw [if_neg (by omega), if_neg (by omega)]
    split <;> simp
  have htm : (tmP x y cp st en m t).2.2 = 0 ∨ (tmP x y cp st en m t).2.2 = 9 := by
    unfold tmP
    rw [if_neg (by omega)]
    split
    · simp
    · split <;> simp
  by_cases h1 : (fitP x y cp st en m t).2 ≠ 0
  · rw [if_pos h1]
    dsimp only
    omega
  · rw [if_neg h1]
    by_cases h2 : (tmP x y cp st en m t).2.2 ≠ 0
    · rw [if_pos h2]
      dsimp only
      omega
    · rw [if_neg h2]
      exact .inl rfl
theorem with_long {x y cp st en : Int} {l : List (Int × Int)} {t : List Rq} {req : Int} {i j : Nat} (hij : i ≤ j) (hj : j ≤ l.length) (h : RightP x y cp st en (withL l req i j) t) : l.length ≤ 14 := by
  have h1 := h.2.2.1
  rw [withL_len l req hij hj] at h1
  omega
/-- the rise, where the request can be put in -/
def riseV (v : Ve) (l : Rou2) (t : List Rq) (req : Int) (i j : Nat) : Int := (timV v (withL l req i j) t).2.1 - (timV v l t).2.1
/-- what the best way is -/
theorem best_ok {v : Ve} {l : Rou2} {t : List Rq} {req : Int} (hR : RightV v l t) (hr : 0 ≤ req ∧ req < t.length) (hn : ∀ s ∈ l, s.1 ≠ req) (h : (bestV v l t req).2 = 0) :
    ∃ i j : Nat, i ≤ j ∧ j ≤ l.length ∧ l.length ≤ 14 ∧ RightV v (withL l req i j) t ∧ (bestV v l t req).1 = ((i : Int), (j : Int), riseV v l t req i j) ∧ 0 ≤ riseV v l t req i j ∧
      ∀ i' j' : Nat, i' ≤ j' → j' ≤ l.length → RightV v (withL l req i' j') t → riseV v l t req i j ≤ riseV v l t req i' j' := by
  have hl16 := hR.2.2.1
  unfold bestV bestP allP at h ⊢
  by_cases hc : (riseP (v 0) (v 1) (v 2) (v 3) (v 4) l t req 0 0).2 = 0 ∨ (riseP (v 0) (v 1) (v 2) (v 3) (v 4) l t req 0 0).2 = 10 ∨ (riseP (v 0) (v 1) (v 2) (v 3) (v 4) l t req 0 0).2 = 9
  · rw [if_pos hc] at h ⊢
    dsimp only at h ⊢
    rw [if_neg (by simp)] at h ⊢
    cases hw : wysP (v 0) (v 1) (v 2) (v 3) (v 4) l t req (prs l.length) with
    | nil => rw [hw] at h; cases h
    | cons b r =>
      dsimp only
      have hmem : lstW b r ∈ wysP (v 0) (v 1) (v 2) (v 3) (v 4) l t req (prs l.length) := by
        rw [hw]
        rcases lstW_mem r b with e | e
        · rw [e]; exact List.mem_cons_self
        · exact List.mem_cons_of_mem _ e
      obtain ⟨p, hp, h0, e⟩ := wys_mem.1 hmem
      obtain ⟨i, j, hij, hj, rfl⟩ := (prs_mem hl16 p).1 hp
      dsimp only at h0 e
      have hl14 : l.length ≤ 14 := by
        by_cases hh : l.length ≤ 14
        · exact hh
        · exfalso
          have hz := ((right_iff _ _ _ _ _ l t).1 hR).1
          have hp : putP (v 0) (v 1) (v 2) (v 3) (v 4) l t req i j = ([], 0, 11) := by
            unfold putP
            rw [if_neg (c := req < 0 ∨ _) (by
              simp only [not_or, List.any_eq_true, not_exists, not_and]
              exact ⟨by omega, by omega, fun s hs e => hn s hs (by simpa using e)⟩), if_neg (fun h => h hz), if_pos (by omega)]
          unfold riseP at h0
          rw [hp] at h0
          simp at h0
      have hRw : RightV v (withL l req i j) t := Classical.byContradiction fun hh => (rise_wrong hij hj hr hn hl14 hh).2 h0
      obtain ⟨_, e2, e3⟩ := rise_right hij hj hr hn hl14 hRw
      have e4 : (riseP (v 0) (v 1) (v 2) (v 3) (v 4) l t req i j).1 = riseV v l t req i j := by rw [e2]; rfl
      rw [e4] at e
      refine ⟨i, j, hij, hj, hl14, hRw, e, e3, fun i' j' hij' hj' hR' => ?_⟩
      obtain ⟨_, e5, _⟩ := rise_right hij' hj' hr hn hl14 hR'
      have hm' : ((i' : Int), (j' : Int), riseV v l t req i' j') ∈ wysP (v 0) (v 1) (v 2) (v 3) (v 4) l t req (prs l.length) :=
        wys_mem.2 ⟨((i' : Int), (j' : Int)), (prs_mem hl16 _).2 ⟨i', j', hij', hj', rfl⟩, by rw [e5], by rw [e5]; rfl⟩
      rw [hw] at hm'
      have hle := lstW_le r b
      rw [e] at hle
      rcases List.mem_cons.1 hm' with h5 | h5
      · rw [← h5] at hle
        exact hle.1
      · exact hle.2 _ h5
  · rw [if_neg hc] at h
    dsimp only at h
    exfalso
    have hh : (riseP (v 0) (v 1) (v 2) (v 3) (v 4) l t req 0 0).2 ≠ 0 := fun e => hc (.inl e)
    rw [if_pos hh] at h
    exact hh h
theorem best_no {v : Ve} {l : Rou2} {t : List Rq} {req : Int} (hR : RightV v l t) (hr : 0 ≤ req ∧ req < t.length) (hn : ∀ s ∈ l, s.1 ≠ req) (h : (bestV v l t req).2 ≠ 0) :
    ∀ i' j' : Nat, i' ≤ j' → j' ≤ l.length → ¬ RightV v (withL l req i' j') t := by
  intro i j hij hj hw
  have hl14 := with_long hij hj hw
  have hc := rise_code (i := 0) (j := 0) (Nat.le_refl _) (Nat.zero_le _) hr hn hl14 hR
  have hl16 := hR.2.2.1
  apply h
  obtain ⟨_, e5, _⟩ := rise_right hij hj hr hn hl14 hw
  have hm' : ((i : Int), (j : Int), riseV v l t req i j) ∈ wysP (v 0) (v 1) (v 2) (v 3) (v 4) l t req (prs l.length) :=
    wys_mem.2 ⟨((i : Int), (j : Int)), (prs_mem hl16 _).2 ⟨i, j, hij, hj, rfl⟩, by rw [e5], by rw [e5]; rfl⟩
  have hall : allP (v 0) (v 1) (v 2) (v 3) (v 4) l t req = (wysP (v 0) (v 1) (v 2) (v 3) (v 4) l t req (prs l.length), 0) := by
    unfold allP
    exact if_pos hc
  unfold bestV bestP
  rw [hall]
  dsimp only
  rw [if_neg (by simp)]
  cases hq : wysP (v 0) (v 1) (v 2) (v 3) (v 4) l t req (prs l.length) with
  | nil => rw [hq] at hm'; cases hm'
  | cons b r => rfl
end Go.Proofs.Ytpbmeeogledmdae
namespace Go.Proofs.Ytpbmeeogledmdae
open Go.RowKit

theorem getD_setS {α : Type} (l : List α) (i j : Nat) (a d : α) : (l.set i a).getD j d = if i = j ∧ i < l.length then a else l.getD j d := by
  rw [List.getD_eq_getElem?_getD, List.getD_eq_getElem?_getD, List.getElem?_set]
  by_cases h : i = j
  · subst h
    by_cases h2 : i < l.length
    · simp [h2]
    · simp [h2]
  · simp [h]
theorem mem_getD {α : Type} {l : List α} {i : Nat} {d : α} (h : i < l.length) : l.getD i d ∈ l := by
  rw [List.getD_eq_getElem?_getD, List.getElem?_eq_getElem h]
  exact List.getElem_mem h
theorem nil_getD {l : List Rou2} {i : Nat} {s : Int × Int} (h : s ∈ l.getD i []) : i < l.length := by
  by_cases hi : i < l.length
  · exact hi
  · rw [List.getD_eq_getElem?_getD, List.getElem?_eq_none (by omega)] at h
    cases h
/-- one route of a plan turned -/
theorem PlnOk.turn {fl : List Ve} {rows : List Rou2} {t : List Rq} (h : PlnOk fl rows t) {i : Nat} (hi : i < fl.length) {l : Rou2} (hl : RightV (fl.getD i ve0) l t)
    (hs : ∀ s ∈ l, s ∈ rows.getD i [] ∨ ∀ (j : Nat) (s' : Int × Int), s' ∈ rows.getD j [] → s'.1 ≠ s.1) : PlnOk fl (rows.set i l) t := by
  have hir : i < rows.length := by rw [h.len]; exact hi
  refine ⟨by rw [List.length_set]; exact h.len, h.many, h.veh, h.req, fun j hj => ?_, fun j k s s' h1 h2 e => ?_⟩
  · rw [getD_setS]
    by_cases e : i = j
    · subst e; rw [if_pos ⟨rfl, hir⟩]; exact hl
    · rw [if_neg (fun x => e x.1)]; exact h.right j hj
  · rw [getD_setS] at h1 h2
    by_cases e1 : i = j
    · subst e1
      rw [if_pos ⟨rfl, hir⟩] at h1
      by_cases e2 : i = k
      · exact e2
      · rw [if_neg (fun x => e2 x.1)] at h2
        rcases hs s h1 with h3 | h3
        · exact h.one i k s s' h3 h2 e
        · exact absurd e.symm (h3 k s' h2)
    · rw [if_neg (fun x => e1 x.1)] at h1
      by_cases e2 : i = k
      · subst e2
        rw [if_pos ⟨rfl, hir⟩] at h2
        rcases hs s' h2 with h3 | h3
        · exact h.one j i s s' h1 h3 e
        · exact absurd e (h3 j s h1)
      · rw [if_neg (fun x => e2 x.1)] at h2
        exact h.one j k s s' h1 h2 e
theorem where_getD {rows : List Rou2} {req : Int} (h : whereP rows req < 0) {i : Nat} {s : Int × Int} (hs : s ∈ rows.getD i []) : s.1 ≠ req :=
  where_none h _ (mem_getD (nil_getD hs)) s hs
/-- what a price is -/
theorem prc_ok {fl : List Ve} {rows : List Rou2} {t : List Rq} {req : Int} (h : (prcP fl rows t req).2.2 = 0) : ∃ (i : Nat), i < fl.length ∧ (0 ≤ req ∧ req < t.length) ∧ whereP rows req < 0 ∧
    (bestV (fl.getD i ve0) (rows.getD i []) t req).2 = 0 ∧ prcP fl rows t req = ((i : Int), (bestV (fl.getD i ve0) (rows.getD i []) t req).1.2.2, 0) := by
  unfold prcP at h ⊢
  by_cases h1 : req < 0 ∨ (t.length : Int) ≤ req
  · rw [if_pos h1] at h; cases h
  rw [if_neg h1] at h ⊢
  by_cases h2 : 0 ≤ whereP rows req
  · rw [if_pos h2] at h; cases h
  rw [if_neg h2] at h ⊢
  cases hk : prcK fl rows t req fl.length with
  | none => rw [hk] at h; cases h
  | some p =>
    have := prcK_lt fl rows t req _ p hk
    refine ⟨p.1, this.1, by omega, by omega, this.2.1, ?_⟩
    dsimp only
    rw [this.2.2]
/-- what a put is -/
theorem put_ok {fl : List Ve} {rows : List Rou2} {t : List Rq} {req : Int} (hP : PlnOk fl rows t) (h : (prcP fl rows t req).2.2 = 0) : ∃ (i a b : Nat), i < fl.length ∧ a ≤ b ∧ b ≤ (rows.getD i []).length ∧ (rows.getD i []).length ≤ 14 ∧
    (0 ≤ req ∧ req < t.length) ∧ whereP rows req < 0 ∧ RightV (fl.getD i ve0) (withL (rows.getD i []) req a b) t ∧ 0 ≤ riseV (fl.getD i ve0) (rows.getD i []) t req a b ∧
    (cputV (fl.getD i ve0) (rows.getD i []) t req) = (withL (rows.getD i []) req a b, riseV (fl.getD i ve0) (rows.getD i []) t req a b, 0) ∧
    prcP fl rows t req = ((i : Int), riseV (fl.getD i ve0) (rows.getD i []) t req a b, 0) ∧
    pputP fl rows t req = (rows.set i (withL (rows.getD i []) req a b), riseV (fl.getD i ve0) (rows.getD i []) t req a b, 0) := by
  obtain ⟨i, hi, hr, hw, hb, e⟩ := prc_ok h
  have hn : ∀ s ∈ rows.getD i [], s.1 ≠ req := fun s hs => where_getD hw hs
  obtain ⟨a, b, hab, hbl, hl14, hR, e2, h0, _⟩ := best_ok (hP.right i hi) hr hn hb
  have hc : cputV (fl.getD i ve0) (rows.getD i []) t req = (withL (rows.getD i []) req a b, riseV (fl.getD i ve0) (rows.getD i []) t req a b, 0) := by
    unfold cputV cputP
    unfold bestV at hb e2
    rw [if_neg (by omega), e2]
    dsimp only
    rw [withP_some hab hbl hr.1 hn hl14]
    rfl
  have e3 : prcP fl rows t req = ((i : Int), riseV (fl.getD i ve0) (rows.getD i []) t req a b, 0) := by rw [e, e2]
  refine ⟨i, a, b, hi, hab, hbl, hl14, hr, hw, hR, h0, hc, e3, ?_⟩
  unfold pputP
  rw [e3]
  dsimp only
  rw [if_neg (by simp), Int.toNat_natCast, hc]
theorem put_no {fl : List Ve} {rows : List Rou2} {t : List Rq} {req : Int} (h : (prcP fl rows t req).2.2 ≠ 0) : pputP fl rows t req = (rows, 0, (prcP fl rows t req).2.2) := by
  unfold pputP
  rw [if_pos h]
theorem put_keeps {fl : List Ve} {rows : List Rou2} {t : List Rq} (hP : PlnOk fl rows t) (req : Int) : PlnOk fl (pputP fl rows t req).1 t := by
  by_cases h : (prcP fl rows t req).2.2 = 0
  · obtain ⟨i, a, b, hi, hab, hbl, _, hr, hw, hR, _, _, _, e⟩ := put_ok hP h
    rw [e]
    refine hP.turn hi hR fun s hs => ?_
    rcases (withL_in hab hbl).1 hs with rfl | rfl | hs
    · exact .inr fun j s' hs' => where_getD hw hs'
    · exact .inr fun j s' hs' => where_getD hw hs'
    · exact .inl hs
  · rw [put_no h]
    exact hP
theorem take_keeps {fl : List Ve} {rows : List Rou2} {t : List Rq} (hP : PlnOk fl rows t) (req : Int) : PlnOk fl (ptakP rows req).1 t := by
  unfold ptakP
  by_cases h : whereP rows req < 0
  · rw [if_pos h]; exact hP
  · rw [if_neg h]
    obtain ⟨i, hi, e, _⟩ := where_some (by omega : 0 ≤ whereP rows req)
    rw [e, Int.toNat_natCast]
    exact hP.turn (by rw [← hP.len]; exact hi) (right_wo (hP.right i (by rw [← hP.len]; exact hi)) req).1 fun s hs => .inl (woP_mem.1 hs).1
/-- totals -/
theorem totK_set (fl : List Ve) (rows : List Rou2) (t : List Rq) (i : Nat) (l : Rou2) (hi : i < rows.length) : ∀ k, totK fl (rows.set i l) t k = totK fl rows t k + if i < k then totV (fl.getD i ve0) l t - totV (fl.getD i ve0) (rows.getD i []) t else 0
  | 0 => by simp [totK]
  | k + 1 => by
    unfold totK
    rw [totK_set fl rows t i l hi k, getD_setS]
    by_cases e : i = k
    · subst e
      rw [if_neg (by omega), if_pos ⟨rfl, hi⟩, if_pos (by omega)]
      omega
    · rw [if_neg (c := i = k ∧ _) (fun x => e x.1)]
      by_cases h : i < k
      · rw [if_pos h, if_pos (by omega)]; omega
      · rw [if_neg h, if_neg (by omega)]; omega
theorem put_tot {fl : List Ve} {rows : List Rou2} {t : List Rq} (hP : PlnOk fl rows t) (req : Int) : totP fl (pputP fl rows t req).1 t = totP fl rows t + (pputP fl rows t req).2.1 := by
  by_cases h : (prcP fl rows t req).2.2 = 0
  · obtain ⟨i, a, b, hi, hab, hbl, _, hr, hw, hR, _, _, _, e⟩ := put_ok hP h
    rw [e]
    unfold totP
    dsimp only
    rw [totK_set _ _ _ _ _ (by rw [hP.len]; exact hi), if_pos hi]
    unfold totV riseV
    omega
  · rw [put_no h]
    simp
theorem take_tot {fl : List Ve} {rows : List Rou2} {t : List Rq} (hP : PlnOk fl rows t) (req : Int) : totP fl (ptakP rows req).1 t ≤ totP fl rows t := by
  unfold ptakP
  by_cases h : whereP rows req < 0
  · rw [if_pos h]; exact Int.le_refl _
  · rw [if_neg h]
    obtain ⟨i, hi, e, _⟩ := where_some (by omega : 0 ≤ whereP rows req)
    rw [e, Int.toNat_natCast]
    unfold totP
    rw [totK_set _ _ _ _ _ hi, if_pos (by rw [← hP.len]; exact hi)]
    have := (right_wo (hP.right i (by rw [← hP.len]; exact hi)) req).2.2
    unfold totV timV
    omega
end Go.Proofs.Ytpbmeeogledmdae
