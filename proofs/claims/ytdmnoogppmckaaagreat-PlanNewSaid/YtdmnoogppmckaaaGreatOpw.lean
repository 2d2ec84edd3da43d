/-
  Where no window makes anybody wait: a rise is the detour, and twice the service. Plain.
-/
import Derived.Test.YtdmnoogppmckaaaGreatRou
import Derived.Test.YtdmnoogppmckaaaGreatCs
import Derived.Test.YtdmnoogppmckaaaGreatDd
namespace Go.Proofs.YtdmnoogppmckaaaGreat

/-- a drafted route: of the requests from a number on -/
theorem drRt_rou (B : List Int) (k r : Int) (hr : 0 ≤ r) : ∀ m, Rou (drRt B k r m) ∧ ∀ s ∈ drRt B k r m, r ≤ s.1 ∧ s.1 < r + (m : Int)
  | 0 => ⟨fun _ => .inl rfl, fun s h => by simp [drRt] at h⟩
  | m + 1 => by
    obtain ⟨h1, h2⟩ := drRt_rou B k r hr m
    rw [drRt]
    unfold drStep
    refine ⟨rou_ins h1 (by omega) (fun s hs => by have := h2 s hs; omega) (drK_le _ _ _) (by unfold drJ; omega), fun s hs => ?_⟩
    rcases insS_mem.1 hs with rfl | hs
    · dsimp only; omega
    · rcases insS_mem.1 hs with rfl | hs
      · dsimp only; omega
      · have := h2 s hs; omega
/-- a request with wide windows -/
def opR (q : Rq) : Rq := fun i => if i = 4 ∨ i = 6 then 0 else if i = 5 ∨ i = 7 then 4000 else q i
/-- a request near the middle, with a small load, and a small service -/
def nearQ (q : Rq) : Prop := (500 ≤ q 0 ∧ q 0 < 520) ∧ (500 ≤ q 1 ∧ q 1 < 520) ∧ (500 ≤ q 2 ∧ q 2 < 520) ∧ (500 ≤ q 3 ∧ q 3 < 520) ∧ (1 ≤ q 8 ∧ q 8 ≤ 9) ∧ (0 ≤ q 9 ∧ q 9 ≤ 3)
theorem near_drR (B : List Int) (wd k fr : Int) : nearQ (drR B wd k fr) := by
  have h3 := nx_bd B (k + 3) (m := 20) (by omega)
  have h4 := nx_bd B (k + 4) (m := 20) (by omega)
  have h5 := nx_bd B (k + 5) (m := 20) (by omega)
  have h6 := nx_bd B (k + 6) (m := 20) (by omega)
  have h7 := nx_bd B (k + 7) (m := 9) (by omega)
  have h8 := nx_bd B (k + 8) (m := 4) (by omega)
  show (500 ≤ 500 + nx B (k + 3) 20 ∧ 500 + nx B (k + 3) 20 < 520) ∧ (500 ≤ 500 + nx B (k + 4) 20 ∧ 500 + nx B (k + 4) 20 < 520) ∧ (500 ≤ 500 + nx B (k + 5) 20 ∧ 500 + nx B (k + 5) 20 < 520) ∧ (500 ≤ 500 + nx B (k + 6) 20 ∧ 500 + nx B (k + 6) 20 < 520) ∧ (1 ≤ 1 + nx B (k + 7) 9 ∧ 1 + nx B (k + 7) 9 ≤ 9) ∧ (0 ≤ nx B (k + 8) 4 ∧ nx B (k + 8) 4 ≤ 3)
  omega
theorem rqE_near {q : Rq} (h : nearQ q) : rqE (opR q) = 0 := by
  obtain ⟨h0, h1, h2, h3, h8, h9⟩ := h
  show rqCode (q 0) (q 1) (q 2) (q 3) 0 4000 0 4000 (q 8) (q 9) = 0
  unfold rqCode firstC plB wiB
  rw [decide_eq_true (show 0 ≤ q 0 ∧ q 0 < 1024 ∧ 0 ≤ q 1 ∧ q 1 < 1024 by omega), decide_eq_true (show 0 ≤ q 2 ∧ q 2 < 1024 ∧ 0 ≤ q 3 ∧ q 3 < 1024 by omega), decide_eq_true (show 1 ≤ q 8 ∧ q 8 ≤ 1000 by omega), decide_eq_true (show 0 ≤ q 9 ∧ q 9 ≤ 1000 by omega)]
  rfl
/-- a stop that is there, of requests near the middle -/
def NearP (x y : Int) : Prop := (500 ≤ x ∧ x < 520) ∧ (500 ≤ y ∧ y < 520)
theorem ds_near {a b u v : Int} (h1 : NearP a b) (h2 : NearP u v) : 0 ≤ dsP a b u v ∧ dsP a b u v ≤ 38 := by
  obtain ⟨h1, h2'⟩ := h1
  obtain ⟨h3, h4⟩ := h2
  unfold dsP plB
  rw [decide_eq_true (show 0 ≤ a ∧ a < 1024 ∧ 0 ≤ b ∧ b < 1024 by omega), decide_eq_true (show 0 ≤ u ∧ u < 1024 ∧ 0 ≤ v ∧ v < 1024 by omega)]
  simp only [Bool.and_self, if_true]
  unfold ap1
  split <;> split <;> omega
def stopOk (n : Nat) (s : Int × Int) : Prop := (0 ≤ s.1 ∧ s.1 < (n : Int)) ∧ (s.2 = 0 ∨ s.2 = 1)
theorem pt_near {t : List Rq} (ht : ∀ q ∈ t, nearQ q) {s : Int × Int} (hs : stopOk t.length s) : ptB s (t.map opR) = true ∧ NearP (ptG s (t.map opR)).x (ptG s (t.map opR)).y ∧ (ptG s (t.map opR)).e = 0 ∧ (ptG s (t.map opR)).l = 4000 ∧
    (ptG s (t.map opR)).s = (t.getD s.1.toNat rqZ0) 9 ∧ 0 ≤ (ptG s (t.map opR)).s ∧ (ptG s (t.map opR)).s ≤ 3 := by
  obtain ⟨⟨h0, h1⟩, hk⟩ := hs
  obtain ⟨n, hn⟩ := Int.eq_ofNat_of_zero_le h0
  have hnl : n < t.length := by omega
  have hg : (t.map opR).getD s.1.toNat rqZ0 = opR t[n] := by
    rw [hn, Int.toNat_natCast, List.getD_eq_getElem?_getD, List.getElem?_map, List.getElem?_eq_getElem hnl]
    rfl
  have hg2 : t.getD s.1.toNat rqZ0 = t[n] := by
    rw [hn, Int.toNat_natCast, List.getD_eq_getElem?_getD, List.getElem?_eq_getElem hnl]
    rfl
  obtain ⟨q0, q1, q2, q3, q8, q9⟩ := ht t[n] (List.getElem_mem hnl)
  have hc : ¬ (s.1 < 0 ∨ ((t.map opR).length : Int) ≤ s.1) := by rw [List.length_map]; omega
  unfold ptB ptG ptOf
  rw [if_neg hc, hg, hg2]
  rcases hk with e | e
  · rw [if_pos e]
    exact ⟨rfl, ⟨q0, q1⟩, rfl, rfl, rfl, q9⟩
  · rw [if_neg (by omega), if_pos e]
    exact ⟨rfl, ⟨q2, q3⟩, rfl, rfl, rfl, q9⟩
/-- how far it is, from a place on, and home; by plain sums -/
def wayI (hx hy : Int) : Int → Int → List (Int × Int) → Int
  | ax, ay, [] => dsP ax ay hx hy
  | ax, ay, p :: r => dsP ax ay p.1 p.2 + wayI hx hy p.1 p.2 r
theorem wayI_bd {hx hy : Int} (hh : NearP hx hy) : ∀ (r : List (Int × Int)) (ax ay : Int), NearP ax ay → (∀ p ∈ r, NearP p.1 p.2) → 0 ≤ wayI hx hy ax ay r ∧ wayI hx hy ax ay r ≤ 38 * ((r.length : Int) + 1)
  | [], ax, ay, ha, _ => by have := ds_near ha hh; simp [wayI]; omega
  | p :: r, ax, ay, ha, hr => by
    have h1 := ds_near ha (hr p (by simp))
    have h2 := wayI_bd hh r p.1 p.2 (hr p (by simp)) (fun q hq => hr q (by simp [hq]))
    simp only [wayI, List.length_cons]
    omega
theorem wayR_I {hx hy : Int} (hh : NearP hx hy) : ∀ (r : List (Int × Int)) (ax ay n : Int), NearP ax ay → (∀ p ∈ r, NearP p.1 p.2) → 0 ≤ n → n + 38 * ((r.length : Int) + 1) ≤ 1000000 → wayR hx hy ax ay r n = n + wayI hx hy ax ay r
  | [], ax, ay, n, ha, _, h0, h1 => by
    have := ds_near ha hh
    simp only [wayR, wayI, List.length_nil] at h1 ⊢
    rw [IntWalk.wrap64_in _ (by omega)]
  | p :: r, ax, ay, n, ha, hr, h0, h1 => by
    have h2 := ds_near ha (hr p (by simp))
    simp only [List.length_cons] at h1
    simp only [wayR, wayI]
    rw [IntWalk.wrap64_in _ (by omega), wayR_I hh r p.1 p.2 _ (hr p (by simp)) (fun q hq => hr q (by simp [hq])) (by omega) (by omega)]
    omega
/-- going along a route, where nobody waits -/
theorem run_open {t : List Rq} (ht : ∀ q ∈ t, nearQ q) {hx hy : Int} (hh : NearP hx hy) : ∀ (l : List (Int × Int)) (ax ay now : Int), NearP ax ay → (∀ s ∈ l, stopOk t.length s) → 0 ≤ now → now + 41 * (l.length : Int) ≤ 3900 →
    ∃ L bx bye nw, tmRun (t.map opR) l ax ay now = some (L, bx, bye, nw) ∧ 0 ≤ nw + dsP bx bye hx hy ∧ nw + dsP bx bye hx hy = now + wayI hx hy ax ay (l.map fun s => plP s (t.map opR)) + (l.map fun s => (t.getD s.1.toNat rqZ0) 9).sum
  | [], ax, ay, now, ha, _, h0, h1 => by
    have := ds_near ha hh
    exact ⟨[], ax, ay, now, rfl, by omega, by simp [wayI]⟩
  | s :: l, ax, ay, now, ha, hs, h0, h1 => by
    obtain ⟨_, p2, p3, p4, p5, p6, p7⟩ := pt_near ht (hs s (by simp))
    have hds := ds_near ha p2
    rw [tmRun_cons, p3, p4]
    simp only [List.length_cons] at h1
    have hwa : waB 0 4000 (now + dsP ax ay (ptG s (t.map opR)).x (ptG s (t.map opR)).y) = true := by
      unfold waB mx wiB
      rw [if_neg (by omega), decide_eq_true (show (0 : Int) ≤ 0 ∧ (0 : Int) ≤ 4000 ∧ (4000 : Int) ≤ 1048576 by omega), decide_eq_true (by omega)]
      rfl
    have hwn : waN 0 4000 (now + dsP ax ay (ptG s (t.map opR)).x (ptG s (t.map opR)).y) = now + dsP ax ay (ptG s (t.map opR)).x (ptG s (t.map opR)).y := by
      unfold waN
      rw [if_pos hwa]
      unfold mx
      rw [if_neg (by omega)]
    rw [if_pos hwa, hwn]
    obtain ⟨L, bx, bye, nw, e1, e2, e3⟩ := run_open ht hh l (ptG s (t.map opR)).x (ptG s (t.map opR)).y (now + dsP ax ay (ptG s (t.map opR)).x (ptG s (t.map opR)).y + (ptG s (t.map opR)).s) p2 (fun u hu => hs u (by simp [hu])) (by omega) (by omega)
    rw [e1]
    refine ⟨_, bx, bye, nw, rfl, e2, ?_⟩
    rw [e3]
    simp only [List.map_cons, wayI, List.sum_cons, plP]
    rw [p5]
    omega

theorem veh_open {x y st : Int} (hv : NearP x y) (hs : 0 ≤ st ∧ st < 20) : vehCode x y 1000 st 8000 = 0 := by
  obtain ⟨h1, h2⟩ := hv
  unfold vehCode firstV plB
  rw [decide_eq_true (show 0 ≤ x ∧ x < 1024 ∧ 0 ≤ y ∧ y < 1024 by omega), decide_eq_true (show (1 : Int) ≤ 1000 ∧ (1000 : Int) ≤ 100000 by omega), decide_eq_true (show 0 ≤ st ∧ st ≤ 8000 by omega), decide_eq_true (show (0 : Int) ≤ 8000 ∧ (8000 : Int) ≤ 1048576 by omega)]
  rfl
/-- a route of requests near the middle -/
structure NearR (t : List Rq) (l : List (Int × Int)) : Prop where
  rou : Rou l
  ok : ∀ s ∈ l, stopOk t.length s
  len : l.length ≤ 14
theorem chk_near {t : List Rq} {l : List (Int × Int)} (h : NearR t l) : chkP l = 0 := (route_iff l).2 ⟨by have := h.len; omega, h.rou⟩
theorem wr_open {x y st : Int} (hv : NearP x y) (hs : 0 ≤ st ∧ st < 20) {t : List Rq} (ht : ∀ q ∈ t, nearQ q) {l : List (Int × Int)} (h : NearR t l) : wrP x y 1000 st 8000 l (t.map opR) = 0 := by
  unfold wrP
  rw [veh_open hv hs, if_neg (by simp), if_neg, chk_near h, if_neg (by simp), if_neg]
  · rw [List.any_eq_true]
    rintro ⟨s, hs, e⟩
    rw [(pt_near ht (h.ok s hs)).1] at e
    cases e
  · rw [List.any_eq_true]
    rintro ⟨q, hq, e⟩
    obtain ⟨u, hu, rfl⟩ := List.mem_map.1 hq
    rw [rqE_near (ht u hu)] at e
    cases e
theorem tm_open {x y st : Int} (hv : NearP x y) (hs : 0 ≤ st ∧ st < 20) {t : List Rq} (ht : ∀ q ∈ t, nearQ q) {l : List (Int × Int)} (h : NearR t l) :
    (tmP x y 1000 st 8000 l (t.map opR)).2 = (st + wayI x y x y (l.map fun s => plP s (t.map opR)) + (l.map fun s => (t.getD s.1.toNat rqZ0) 9).sum, 0) := by
  have hl := h.len
  obtain ⟨L, bx, bye, nw, e1, e2, e3⟩ := run_open ht hv l x y st hv h.ok hs.1 (by omega)
  have hw := wayI_bd hv (l.map fun s => plP s (t.map opR)) x y hv (by
    intro p hp
    obtain ⟨s, hs, rfl⟩ := List.mem_map.1 hp
    exact (pt_near ht (h.ok s hs)).2.1)
  rw [List.length_map] at hw
  have hsum : ∀ l : List (Int × Int), (∀ s ∈ l, stopOk t.length s) → (l.map fun s => (t.getD s.1.toNat rqZ0) 9).sum ≤ 3 * (l.length : Int) := by
    intro l hl
    induction l with
    | nil => simp
    | cons s l ih =>
      have h1 := ih (fun u hu => hl u (by simp [hu]))
      have h2 := (pt_near ht (hl s (by simp))).2.2.2.2
      rw [List.map_cons, List.sum_cons, List.length_cons]
      omega
  have hsl := hsum l h.ok
  unfold tmP
  rw [wr_open hv hs ht h, if_neg (by simp), e1]
  dsimp only
  rw [if_neg (by omega), e3]
theorem sg_near {t : List Rq} (ht : ∀ q ∈ t, nearQ q) {s : Int × Int} (hs : stopOk t.length s) : sgL (t.map opR) s ≤ 9 := by
  obtain ⟨⟨h0, h1⟩, hk⟩ := hs
  obtain ⟨n, hn⟩ := Int.eq_ofNat_of_zero_le h0
  have hnl : n < t.length := by omega
  have hg : (t.map opR).getD s.1.toNat rqZ0 = opR t[n] := by
    rw [hn, Int.toNat_natCast, List.getD_eq_getElem?_getD, List.getElem?_map, List.getElem?_eq_getElem hnl]
    rfl
  obtain ⟨_, _, _, _, q8, _⟩ := ht t[n] (List.getElem_mem hnl)
  unfold sgL
  rw [hg]
  show (if s.2 = 0 then 1 else -1) * t[n] 8 ≤ 9
  split <;> omega
theorem on_near {t : List Rq} (ht : ∀ q ∈ t, nearQ q) {l : List (Int × Int)} (h : NearR t l) : ∀ k, k ≤ l.length → onK l (t.map opR) k ≤ 9 * (k : Int)
  | 0, _ => by rw [onK_zero]; omega
  | k + 1, hk => by
    have h1 := on_near ht h k (by omega)
    have h2 := sg_near ht (h.ok l[k] (List.getElem_mem (by omega)))
    rw [onK_succ l _ (by omega)]
    omega
theorem fit_open {x y st : Int} (hv : NearP x y) (hs : 0 ≤ st ∧ st < 20) {t : List Rq} (ht : ∀ q ∈ t, nearQ q) {l : List (Int × Int)} (h : NearR t l) : (fitP x y 1000 st 8000 l (t.map opR)).2 = 0 := by
  have htold : toldP l (t.map opR) = 0 := by
    unfold toldP
    rw [chk_near h, if_neg (by simp), if_neg, if_neg]
    · rw [List.any_eq_true]
      rintro ⟨s, hs, e⟩
      obtain ⟨⟨h0, h1⟩, hk⟩ := h.ok s hs
      obtain ⟨n, hn⟩ := Int.eq_ofNat_of_zero_le h0
      have hnl : n < t.length := by omega
      have hg : (t.map opR).getD s.1.toNat rqZ0 = opR t[n] := by
        rw [hn, Int.toNat_natCast, List.getD_eq_getElem?_getD, List.getElem?_map, List.getElem?_eq_getElem hnl]
        rfl
      rw [hg, rqE_near (ht _ (List.getElem_mem hnl))] at e
      cases e
    · rw [List.any_eq_true]
      rintro ⟨s, hs, e⟩
      have := (h.ok s hs).1
      rw [List.length_map] at e
      simp at e
      omega
  have hl := h.len
  unfold fitP
  rw [veh_open hv hs, if_neg (by simp), htold, if_neg (by simp), fullAt_none (fun j hj => by
    have := on_near ht h (j + 1) (by omega)
    omega)]
theorem near_with {t : List Rq} {l : List (Int × Int)} (h : NearR t l) (hl : l.length ≤ 12) {req : Int} (hr : 0 ≤ req ∧ req < (t.length : Int)) (hn : ∀ s ∈ l, s.1 ≠ req) {i j : Nat} (hij : i ≤ j) (hj : j ≤ l.length) : NearR t (withL l req i j) := by
  refine ⟨?_, fun s hs => ?_, by rw [withL_len l req hij hj]; omega⟩
  · rw [withL_ins l req hij hj]
    exact rou_ins h.rou hr.1 hn (by omega) (by omega)
  · rw [withL_ins l req hij hj] at hs
    rcases insS_mem.1 hs with rfl | hs
    · exact ⟨hr, .inr rfl⟩
    · rcases insS_mem.1 hs with rfl | hs
      · exact ⟨hr, .inl rfl⟩
      · exact h.ok s hs
/-- the law of open windows -/
theorem open_law {x y st : Int} (hv : NearP x y) (hs : 0 ≤ st ∧ st < 20) {t : List Rq} (ht : ∀ q ∈ t, nearQ q) {l : List (Int × Int)} (h : NearR t l) (hl : l.length ≤ 12) {req : Int} (hr : 0 ≤ req ∧ req < (t.length : Int)) (hn : ∀ s ∈ l, s.1 ≠ req) {i j : Nat} (hij : i ≤ j) (hj : j ≤ l.length) :
    ∃ D : Int, (0 ≤ D + 1000000 ∧ D ≤ 1000000) ∧ riseP x y 1000 st 8000 l (t.map opR) req i j = (D + 2 * (t.getD req.toNat rqZ0) 9, 0) ∧ detP x y 1000 st 8000 l (t.map opR) req i j = (D, 0) := by
  have hM := near_with h hl hr hn hij hj
  have hml := withL_len l req hij hj
  have tml := tm_open hv hs ht h
  have tmm := tm_open hv hs ht hM
  have hany : ¬ (l.any (fun s => s.1 == req) = true) := by
    rw [List.any_eq_true]
    rintro ⟨s, h1, h2⟩
    exact hn s h1 (by simpa using h2)
  have hwp : withP l req i j = some (withL l req i j) := by
    unfold withP
    rw [if_neg (by simp only [not_or]; exact ⟨by omega, by omega, by omega, by omega, hany, by omega⟩), Int.toNat_natCast, Int.toNat_natCast]
  have hput : putP x y 1000 st 8000 l (t.map opR) req i j = (withL l req i j, (tmP x y 1000 st 8000 l (t.map opR)).2.1, 0) := by
    unfold putP
    rw [if_neg (by simp only [not_or]; exact ⟨by omega, by rw [List.length_map]; omega, hany⟩), tml, if_neg (by simp), if_neg (by omega), hwp]
    rfl
  have hnear : ∀ R : List (Int × Int), NearR t R → ∀ p ∈ R.map (fun s => plP s (t.map opR)), NearP p.1 p.2 := by
    intro R hR p hp
    obtain ⟨s, hs, rfl⟩ := List.mem_map.1 hp
    exact (pt_near ht (hR.ok s hs)).2.1
  have hw1 := wayI_bd hv _ x y hv (hnear l h)
  have hw2 := wayI_bd hv _ x y hv (hnear _ hM)
  rw [List.length_map] at hw1 hw2
  have hR1 : wayL (plcL x y l (t.map opR)) = wayI x y x y (l.map fun s => plP s (t.map opR)) := by
    show wayR x y x y _ 0 = _
    rw [wayR_I hv _ x y 0 hv (hnear l h) (by omega) (by rw [List.length_map]; omega)]
    omega
  have hR2 : wayL (plcL x y (withL l req i j) (t.map opR)) = wayI x y x y ((withL l req i j).map fun s => plP s (t.map opR)) := by
    show wayR x y x y _ 0 = _
    rw [wayR_I hv _ x y 0 hv (hnear _ hM) (by omega) (by rw [List.length_map]; omega)]
    omega
  have hsm : ((withL l req i j).map fun s => (t.getD s.1.toNat rqZ0) 9).sum = 2 * (t.getD req.toNat rqZ0) 9 + (l.map fun s => (t.getD s.1.toNat rqZ0) 9).sum := by
    rw [withL_ins l req hij hj, insS_sum, insS_sum]
    dsimp only
    omega
  have hsv := (pt_near ht (s := (req, 0)) ⟨hr, .inl rfl⟩).2.2.2.2
  refine ⟨wayI x y x y ((withL l req i j).map fun s => plP s (t.map opR)) - wayI x y x y (l.map fun s => plP s (t.map opR)), by omega, ?_, ?_⟩
  · unfold riseP
    rw [hput]
    dsimp only
    rw [if_neg (by simp), fit_open hv hs ht hM, if_neg (by simp), tmm, tml]
    dsimp only
    rw [if_neg (by simp), hsm, IntWalk.wrap64_in _ (by dsimp only at hsv; omega)]
    congr 1
    omega
  · unfold detP
    rw [hput]
    dsimp only
    rw [if_neg (by simp), hR1, hR2, IntWalk.wrap64_in _ (by omega)]

theorem near_dpT (B : List Int) (n wd : Int) : ∀ q ∈ dpT B n wd, nearQ q := by
  intro q hq
  unfold dpT drT at hq
  obtain ⟨i, _, rfl⟩ := List.mem_map.1 hq
  exact near_drR _ _ _ _
theorem near_dpL (B : List Int) (n wd : Int) : NearR (dpT B n wd) (dpL B n) := by
  have h := drRt_rou B (8 * (dpN n : Int) + 5) 0 (by omega) (dpN n)
  have h6 := dpN_le n
  refine ⟨h.1, fun s hs => ?_, by rw [dpL_len]; omega⟩
  have := h.2 s hs
  rw [stopOk, dpT_len]
  exact ⟨⟨by omega, by omega⟩, (rou_mem h.1 hs).2.1⟩
theorem near_dcL (B : List Int) (n wd : Int) : NearR (dpT B n wd) (dcL B n wd) ∧ (dcL B n wd).length ≤ 12 ∧ ∀ s ∈ dcL B n wd, s.1 ≠ ((dpT B n wd).length : Int) - 1 := by
  have h := near_dpL B n wd
  have hl : (dcL B n wd).length ≤ 12 := by
    have h1 := woP_len (dpL B n) (((dpT B n wd).length : Int) - 1)
    have h2 := dpL_len B n
    have h3 := dpN_le n
    have h4 : (dcL B n wd).length ≤ (dpL B n).length := h1
    omega
  exact ⟨⟨rou_woP h.rou _, fun s hs => h.ok s (woP_mem.1 hs).1, by omega⟩, hl, fun s hs => (woP_mem.1 hs).2⟩
theorem near_dpV (B : List Int) (n : Int) : NearP (dpV B n 0) (dpV B n 1) ∧ 0 ≤ dpV B n 3 ∧ dpV B n 3 < 20 := by
  have h1 := nx_bd B (8 * (dpN n : Int) + 1) (m := 20) (by omega)
  have h2 := nx_bd B (8 * (dpN n : Int) + 2) (m := 20) (by omega)
  have h4 := nx_bd B (8 * (dpN n : Int) + 4) (m := 20) (by omega)
  show ((500 ≤ 500 + nx B (8 * (dpN n : Int) + 1) 20 ∧ 500 + nx B (8 * (dpN n : Int) + 1) 20 < 520) ∧ (500 ≤ 500 + nx B (8 * (dpN n : Int) + 2) 20 ∧ 500 + nx B (8 * (dpN n : Int) + 2) 20 < 520)) ∧ 0 ≤ nx B (8 * (dpN n : Int) + 4) 20 ∧ nx B (8 * (dpN n : Int) + 4) 20 < 20
  omega
end Go.Proofs.YtdmnoogppmckaaaGreat
