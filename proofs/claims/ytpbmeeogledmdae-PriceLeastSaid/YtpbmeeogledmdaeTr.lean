/-
  Layer 9, plain: the route gone along by feas.Check, in three parts: what stands, what is on board, when.
  Layers 2 and 11, plain: the triangle of distances; a route without a request is no later.
-/
import Derived.Test.YtpbmeeogledmdaeFc
import Derived.Test.YtpbmeeogledmdaeRou
namespace Go.Proofs.Ytpbmeeogledmdae
open Go.RowKit

/-- what has been gone is the beginning of a route of requests below T -/
def PreT (T : Nat) (l : List (Int × Int)) : Prop := ∀ r, sub l r = [] ∨ (0 ≤ r ∧ r < T ∧ (sub l r = [(r, 0)] ∨ sub l r = pd r))
theorem onK_cons (s : Int × Int) (r : List (Int × Int)) (t : List Rq) (k : Nat) : onK (s :: r) t (k + 1) = sgL t s + onK r t k := by
  unfold onK
  simp
theorem sum_split (f : Int × Int → Int) (r : Int) : ∀ l : List (Int × Int), (l.map f).sum = ((sub l r).map f).sum + ((woP l r).map f).sum
  | [] => rfl
  | s :: l => by
    have ih := sum_split f r l
    unfold sub woP at *
    by_cases e : s.1 = r
    · simp [e, ih] <;> omega
    · simp [e, ih] <;> omega
theorem woP_lt {l : List (Int × Int)} {s : Int × Int} (h : s ∈ l) : (woP l s.1).length < l.length := by
  unfold woP
  exact List.length_filter_lt_length_iff_exists.2 ⟨s, h, by simp⟩
/-- a route is right: plain -/
def RightP (x y cp st en : Int) (l : List (Int × Int)) (t : List Rq) : Prop :=
  vehCode x y cp st en = 0 ∧ (∀ q ∈ t, rqE q = 0) ∧ l.length ≤ 16 ∧ Rou l ∧ (∀ s ∈ l, s.1 < t.length) ∧ (∀ k, k < l.length → onK l t (k + 1) ≤ cp) ∧ ∃ L ax ay now, tmRun t l x y st = some (L, ax, ay, now) ∧ now + dsP ax ay x y ≤ en
theorem pre_of_rou {T : Nat} {l : List (Int × Int)} (h : Rou l) (hT : ∀ s ∈ l, s.1 < T) : PreT T l := fun r => by
  rcases h r with h1 | ⟨h0, h1⟩
  · exact .inl h1
  · refine .inr ⟨h0, ?_, .inr h1⟩
    have hm : (r, (0 : Int)) ∈ sub l r := by rw [h1]; simp [pd]
    exact hT _ (List.mem_filter.1 hm).1
theorem pre_mem {T : Nat} {l : List (Int × Int)} (h : PreT T l) {s : Int × Int} (hs : s ∈ l) : 0 ≤ s.1 ∧ s.1 < T ∧ (s.2 = 0 ∨ s.2 = 1) := by
  have hm : s ∈ sub l s.1 := List.mem_filter.2 ⟨hs, by simp⟩
  rcases h s.1 with h1 | ⟨h0, hT, h1 | h1⟩
  · rw [h1] at hm; simp at hm
  · rw [h1] at hm
    simp at hm
    refine ⟨h0, hT, .inl ?_⟩
    rw [hm]
  · rw [h1] at hm
    simp [pd] at hm
    refine ⟨h0, hT, ?_⟩
    rcases hm with h2 | h2
    · left; rw [h2]
    · right; rw [h2]
theorem right_iff (x y cp st en : Int) (l : List (Int × Int)) (t : List Rq) : RightP x y cp st en l t ↔ (tmP x y cp st en l t).2.2 = 0 ∧ (fitP x y cp st en l t).2 = 0 := by
  constructor
  · rintro ⟨hv, ht, hl, hR, hT, hk, L, ax, ay, now, h3, h4⟩
    have hc : chkP l = 0 := (route_iff l).2 ⟨hl, hR⟩
    have hw : wrP x y cp st en l t = 0 := by
      unfold wrP
      rw [if_neg (by omega), if_neg (by simpa using ht), if_neg (by omega), if_neg]
      simp only [Bool.not_eq_true, List.any_eq_false, Bool.not_eq_eq_eq_not]
      intro s hs
      have h1 := rou_mem hR hs
      have h2 := hT s hs
      unfold ptB ptOf
      rw [if_neg (by omega)]
      rcases h1.2.1 with e | e
      · rw [if_pos e]; simp
      · rw [if_neg (by omega), if_pos e]; simp
    have hto : toldP l t = 0 := by
      unfold toldP
      rw [if_neg (by omega), if_neg, if_neg]
      · simp only [Bool.not_eq_true, List.any_eq_false, bne_iff_ne, ne_eq, Decidable.not_not]
        intro s hs
        have h1 := rou_mem hR hs
        have h2 := hT s hs
        have hn : s.1.toNat < t.length := by omega
        rw [getD_at t hn]
        simpa using ht _ (List.getElem_mem hn)
      · simp only [Bool.not_eq_true, List.any_eq_false, decide_eq_true_eq]
        intro s hs
        have := hT s hs
        omega
    refine ⟨?_, ?_⟩
    · unfold tmP
      rw [if_neg (by omega), h3]
      simp only
      rw [if_neg (by omega)]
    · unfold fitP
      rw [if_neg (by omega), if_neg (by omega), fullAt_none (fun j hj => by have := hk j hj; omega)]
  · rintro ⟨h1, h2⟩
    unfold tmP at h1
    by_cases hw : wrP x y cp st en l t = 0
    · rw [if_neg (by omega)] at h1
      obtain ⟨hv, ht, hc, hpt⟩ := wrP_zero hw
      obtain ⟨hl, hR⟩ := (route_iff l).1 hc
      have hT : ∀ s ∈ l, s.1 < t.length := fun s hs => by
        obtain ⟨n, e, hn, _⟩ := pt_there (hpt s hs)
        omega
      unfold fitP at h2
      rw [if_neg (by omega)] at h2
      by_cases hto : toldP l t = 0
      · rw [if_neg (by omega)] at h2
        cases hf : fullAt cp l t with
        | some k => rw [hf] at h2; simp at h2
        | none =>
          have hk : ∀ k, k < l.length → onK l t (k + 1) ≤ cp := fun k hk => by
            unfold fullAt at hf
            have := List.find?_eq_none.1 hf k (by simpa using hk)
            simpa using this
          cases hr : tmRun t l x y st with
          | none => rw [hr] at h1; simp at h1
          | some R =>
            obtain ⟨L, ax, ay, now⟩ := R
            rw [hr] at h1
            simp only at h1
            by_cases hlt : en < now + dsP ax ay x y
            · rw [if_pos hlt] at h1; simp at h1
            · exact ⟨hv, ht, hl, hR, hT, hk, L, ax, ay, now, hr, by omega⟩
      · rw [if_pos hto] at h2
        exact absurd h2 hto
    · rw [if_pos hw] at h1
      exact absurd h1 hw

end Go.Proofs.Ytpbmeeogledmdae
namespace Go.Proofs.Ytpbmeeogledmdae
open Go.RowKit

theorem ds_tri {x y u v a b : Int} (h1 : plB x y = true) (h2 : plB u v = true) (h3 : plB a b = true) : dsP x y a b ≤ dsP x y u v + dsP u v a b := by
  unfold dsP
  simp only [h1, h2, h3]
  unfold ap1
  simp
  repeat' split
  all_goals omega

/-- from a place and a time one is everywhere no later than from another -/
def noLater (ax ay now ax' ay' now' : Int) : Prop := ∀ u v, plB u v = true → now + dsP ax ay u v ≤ now' + dsP ax' ay' u v
theorem mx_mono {a b e : Int} (h : a ≤ b) : mx a e ≤ mx b e := by
  unfold mx
  split <;> split <;> omega
theorem mx_ge (a e : Int) : a ≤ mx a e ∧ e ≤ mx a e := by
  unfold mx
  split <;> omega
/-- the same stop, reached no later: left no later -/
theorem noLater_step {ax ay now ax' ay' now' e u v s : Int} (h : noLater ax ay now ax' ay' now') (hp : plB u v = true) :
    noLater u v (mx (now + dsP ax ay u v) e + s) u v (mx (now' + dsP ax' ay' u v) e + s) := fun a b _ => by
  have := mx_mono (e := e) (h u v hp)
  omega
/-- a stop more on the other way makes it no earlier -/
theorem noLater_more {ax ay now ax' ay' now' e u v s : Int} (h : noLater ax ay now ax' ay' now') (hp : plB u v = true) (hs : 0 ≤ s) (ha : plB ax' ay' = true) :
    noLater ax ay now u v (mx (now' + dsP ax' ay' u v) e + s) := fun a b hab => by
  have h1 := h a b hab
  have h2 := ds_tri ha hp hab
  have h3 := (mx_ge (now' + dsP ax' ay' u v) e).1
  omega

theorem rqE_pl {q : Rq} (h : rqE q = 0) : plB (q 0) (q 1) = true ∧ plB (q 2) (q 3) = true := by
  unfold rqE rqCode firstC at h
  cases h1 : (plB (q 0) (q 1) && plB (q 2) (q 3)) <;> rw [h1] at h
  · simp at h
  · rwa [Bool.and_eq_true] at h1
/-- a stop that is there, of requests that may be -/
theorem pt_pl {t : List Rq} (ht : ∀ q ∈ t, rqE q = 0) {s : Int × Int} (h : ptB s t = true) : plB (ptG s t).x (ptG s t).y = true ∧ 0 ≤ (ptG s t).s := by
  unfold ptB at h
  unfold ptG
  unfold ptOf at h ⊢
  by_cases h1 : s.1 < 0 ∨ (t.length : Int) ≤ s.1
  · rw [if_pos h1] at h; cases h
  · rw [if_neg h1] at h ⊢
    have hn : s.1.toNat < t.length := by omega
    have hq := ht (t.getD s.1.toNat rqZ0) (by rw [getD_at t hn]; exact List.getElem_mem hn)
    have h2 := rqE_pl hq
    have h3 := (rqE_serve hq).1
    by_cases e : s.2 = 0
    · rw [if_pos e]; exact ⟨h2.1, h3⟩
    · rw [if_neg e] at h ⊢
      by_cases e1 : s.2 = 1
      · rw [if_pos e1]; exact ⟨h2.2, h3⟩
      · rw [if_neg e1] at h; cases h
theorem tmRun_append (t : List Rq) : ∀ (a r : List (Int × Int)) (ax ay now : Int), tmRun t (a ++ r) ax ay now = (tmRun t a ax ay now).bind fun q => (tmRun t r q.2.1 q.2.2.1 q.2.2.2).map fun u => (q.1 ++ u.1, u.2)
  | [], r, ax, ay, now => by
    show tmRun t r ax ay now = (tmRun t r ax ay now).map fun u => ([] ++ u.1, u.2)
    cases tmRun t r ax ay now <;> rfl
  | s :: a, r, ax, ay, now => by
    rw [List.cons_append, tmRun_cons, tmRun_cons]
    split
    · rw [tmRun_append t a r]
      generalize tmRun t a _ _ _ = A
      cases A with
      | none => rfl
      | some q =>
        show ((tmRun t r q.2.1 q.2.2.1 q.2.2.2).map _).map _ = _
        rw [Option.map_map]
        rfl
    · rfl
/-- the times of a route with a request, and without it: none of the same stop is earlier -/
def Ste (req : Int) : List (Int × Int) → Tms → Tms → Prop
  | [], a, b => a = [] ∧ b = []
  | s :: r, a, b => ∃ u b', b = u :: b' ∧ ((s.1 = req ∧ Ste req r a b') ∨ (s.1 ≠ req ∧ ∃ v a', a = v :: a' ∧ (v.2.1 ≤ u.2.1 ∧ v.2.2 ≤ u.2.2) ∧ Ste req r a' b'))
theorem tm_wo {t : List Rq} (ht : ∀ q ∈ t, rqE q = 0) (req : Int) : ∀ (m : List (Int × Int)) (ax ay now ax' ay' now' : Int), noLater ax ay now ax' ay' now' → plB ax' ay' = true → (∀ s ∈ m, ptB s t = true) →
    ∀ b X' Y' N', tmRun t m ax' ay' now' = some (b, X', Y', N') → ∃ a X Y N, tmRun t (woP m req) ax ay now = some (a, X, Y, N) ∧ noLater X Y N X' Y' N' ∧ Ste req m a b
  | [], ax, ay, now, ax', ay', now', hn, hp, _, b, X', Y', N', h => by
    cases h
    exact ⟨[], ax, ay, now, rfl, hn, rfl, rfl⟩
  | s :: r, ax, ay, now, ax', ay', now', hn, hp, hs, b, X', Y', N', h => by
    obtain ⟨hpl, hsv⟩ := pt_pl ht (hs s (by simp))
    rw [tmRun_cons] at h
    by_cases hw : waB (ptG s t).e (ptG s t).l (now' + dsP ax' ay' (ptG s t).x (ptG s t).y) = true
    · rw [if_pos hw] at h
      obtain ⟨q, hq, he⟩ := Option.map_eq_some_iff.1 h
      obtain ⟨b', x1, y1, n1⟩ := q
      cases he
      have hwn : waN (ptG s t).e (ptG s t).l (now' + dsP ax' ay' (ptG s t).x (ptG s t).y) = mx (now' + dsP ax' ay' (ptG s t).x (ptG s t).y) (ptG s t).e := by unfold waN; rw [if_pos hw]
      by_cases e : s.1 = req
      · have ew : woP (s :: r) req = woP r req := by unfold woP; simp [e]
        rw [ew]
        obtain ⟨a, X, Y, N, g1, g2, g3⟩ := tm_wo ht req r ax ay now _ _ _ (by rw [hwn]; exact noLater_more (e := (ptG s t).e) hn hpl hsv hp) hpl (fun u hu => hs u (by simp [hu])) b' X' Y' N' hq
        exact ⟨a, X, Y, N, g1, g2, _, _, rfl, .inl ⟨e, g3⟩⟩
      · have ew : woP (s :: r) req = s :: woP r req := by unfold woP; simp [e]
        rw [ew, tmRun_cons]
        have hle := hn (ptG s t).x (ptG s t).y hpl
        have hm := mx_mono (e := (ptG s t).e) hle
        have hw2 : waB (ptG s t).e (ptG s t).l (now + dsP ax ay (ptG s t).x (ptG s t).y) = true := by
          unfold waB at hw ⊢
          rw [Bool.and_eq_true, decide_eq_true_eq] at hw ⊢
          exact ⟨hw.1, by omega⟩
        have hwn2 : waN (ptG s t).e (ptG s t).l (now + dsP ax ay (ptG s t).x (ptG s t).y) = mx (now + dsP ax ay (ptG s t).x (ptG s t).y) (ptG s t).e := by unfold waN; rw [if_pos hw2]
        rw [if_pos hw2]
        obtain ⟨a, X, Y, N, g1, g2, g3⟩ := tm_wo ht req r (ptG s t).x (ptG s t).y (waN (ptG s t).e (ptG s t).l (now + dsP ax ay (ptG s t).x (ptG s t).y) + (ptG s t).s) _ _ _ (by rw [hwn, hwn2]; exact fun u v _ => by omega) hpl (fun u hu => hs u (by simp [hu])) b' X' Y' N' hq
        rw [g1]
        refine ⟨_, X, Y, N, rfl, g2, _, _, rfl, .inr ⟨e, _, _, rfl, ⟨?_, ?_⟩, g3⟩⟩
        · show waN _ _ _ ≤ waN _ _ _
          rw [hwn, hwn2]; exact hm
        · show waN _ _ _ + _ ≤ waN _ _ _ + _
          rw [hwn, hwn2]; omega
    · rw [if_neg hw] at h; cases h

theorem ste_len {req : Int} : ∀ {m : List (Int × Int)} {a b : Tms}, Ste req m a b → a.length = (woP m req).length ∧ b.length = m.length
  | [], a, b, h => by
    obtain ⟨rfl, rfl⟩ := h
    exact ⟨rfl, rfl⟩
  | s :: r, a, b, h => by
    obtain ⟨u, b', rfl, ⟨e, h⟩ | ⟨e, v, a', rfl, _, h⟩⟩ := h
    · have := ste_len h
      have ew : woP (s :: r) req = woP r req := by unfold woP; simp [e]
      rw [ew]
      exact ⟨this.1, by simp [this.2]⟩
    · have := ste_len h
      have ew : woP (s :: r) req = s :: woP r req := by unfold woP; simp [e]
      rw [ew]
      exact ⟨by simp [this.1], by simp [this.2]⟩
theorem wo_at {req : Int} : ∀ {m : List (Int × Int)} {n : Nat} {s : Int × Int}, m[n]? = some s → s.1 ≠ req → (woP m req)[(woP (m.take n) req).length]? = some s
  | [], n, s, h, _ => by simp at h
  | x :: r, 0, s, h, hs => by
    simp at h
    subst h
    unfold woP
    simp [hs]
  | x :: r, n + 1, s, h, hs => by
    have ih := wo_at (m := r) (n := n) (s := s) (by simpa using h) hs
    by_cases e : x.1 = req
    · have ew : ∀ q, woP (x :: q) req = woP q req := fun q => by unfold woP; simp [e]
      rw [List.take_succ_cons, ew, ew]
      exact ih
    · have ew : ∀ q, woP (x :: q) req = x :: woP q req := fun q => by unfold woP; simp [e]
      rw [List.take_succ_cons, ew, ew, List.length_cons, List.getElem?_cons_succ]
      exact ih
theorem ste_at {req : Int} : ∀ {m : List (Int × Int)} {a b : Tms} {n : Nat} {s : Int × Int}, Ste req m a b → m[n]? = some s → s.1 ≠ req → ∃ v u, a[(woP (m.take n) req).length]? = some v ∧ b[n]? = some u ∧ v.2.1 ≤ u.2.1 ∧ v.2.2 ≤ u.2.2
  | [], a, b, n, s, _, h, _ => by simp at h
  | x :: r, a, b, 0, s, hS, h, hs => by
    simp at h
    subst h
    obtain ⟨u, b', rfl, ⟨e, _⟩ | ⟨e, v, a', rfl, hle, _⟩⟩ := hS
    · exact absurd e hs
    · exact ⟨v, u, rfl, rfl, hle⟩
  | x :: r, a, b, n + 1, s, hS, h, hs => by
    obtain ⟨u, b', rfl, ⟨e, hS⟩ | ⟨e, v, a', rfl, _, hS⟩⟩ := hS
    · have ew : ∀ q, woP (x :: q) req = woP q req := fun q => by unfold woP; simp [e]
      obtain ⟨v, u, h1, h2, h3⟩ := ste_at (n := n) (s := s) hS (by simpa using h) hs
      rw [List.take_succ_cons, ew]
      exact ⟨v, u, h1, by simpa using h2, h3⟩
    · have ew : ∀ q, woP (x :: q) req = x :: woP q req := fun q => by unfold woP; simp [e]
      obtain ⟨v, u, h1, h2, h3⟩ := ste_at (n := n) (s := s) hS (by simpa using h) hs
      rw [List.take_succ_cons, ew]
      exact ⟨v, u, by simpa using h1, by simpa using h2, h3⟩
theorem woP_none {l : List (Int × Int)} {req : Int} (h : ∀ s ∈ l, s.1 ≠ req) : woP l req = l := by
  unfold woP
  rw [List.filter_eq_self]
  intro s hs
  simpa using h s hs
theorem woP_append (a b : List (Int × Int)) (req : Int) : woP (a ++ b) req = woP a req ++ woP b req := List.filter_append _ _
theorem woP_withL {l : List (Int × Int)} {req : Int} (h : ∀ s ∈ l, s.1 ≠ req) {i j : Nat} (hij : i ≤ j) : woP (withL l req i j) req = l := by
  have e1 : ∀ q, woP ((req, 0) :: q) req = woP q req := fun q => by unfold woP; simp
  have e2 : ∀ q, woP ((req, 1) :: q) req = woP q req := fun q => by unfold woP; simp
  unfold withL
  rw [woP_append, e1, woP_append, e2, woP_none (fun s hs => h s (List.mem_of_mem_take hs)), woP_none (fun s hs => h s (List.mem_of_mem_drop (List.mem_of_mem_take hs))), woP_none (fun s hs => h s (List.mem_of_mem_drop hs))]
  rw [← List.append_assoc]
  have e : l.take i ++ (l.drop i).take (j - i) = l.take j := by
    have := List.take_add (l := l) (i := i) (j := j - i)
    rw [← this]
    congr 1
    omega
  rw [e, List.take_append_drop]
/-- a route without one of its requests is nowhere fuller -/
theorem sub_load {T : Nat} {l : List (Int × Int)} {t : List Rq} (hp : PreT T l) (r : Int) (hq : ∀ s ∈ l, 1 ≤ t.getD s.1.toNat rqZ0 8) : 0 ≤ ((sub l r).map (sgL t)).sum := by
  have e1 : sgL t (r, 0) = t.getD r.toNat rqZ0 8 := by unfold sgL; simp
  have e2 : sgL t (r, 1) = - t.getD r.toNat rqZ0 8 := by unfold sgL; simp
  rcases hp r with h | ⟨_, _, h | h⟩
  · rw [h]; exact Int.le_refl _
  · have hm : (r, (0 : Int)) ∈ l := by
      have : (r, (0 : Int)) ∈ sub l r := by rw [h]; simp
      exact (List.mem_filter.1 this).1
    have := hq _ hm
    rw [h]
    simp only [List.map_cons, List.map_nil, List.sum_cons, List.sum_nil, e1]
    dsimp only at this
    omega
  · rw [h]
    simp only [pd, List.map_cons, List.map_nil, List.sum_cons, List.sum_nil, e1, e2]
    omega
theorem wo_take (req : Int) : ∀ (m : List (Int × Int)) (k : Nat), k ≤ (woP m req).length → ∃ n, n ≤ m.length ∧ woP (m.take n) req = (woP m req).take k
  | m, 0, _ => ⟨0, Nat.zero_le _, by simp [woP]⟩
  | [], k + 1, h => by simp [woP] at h
  | s :: r, k + 1, h => by
    by_cases e : s.1 = req
    · have ew : ∀ q, woP (s :: q) req = woP q req := fun q => by unfold woP; simp [e]
      rw [ew] at h ⊢
      obtain ⟨n, hn, h1⟩ := wo_take req r (k + 1) h
      exact ⟨n + 1, by simpa using hn, by rw [List.take_succ_cons, ew, h1]⟩
    · have ew : ∀ q, woP (s :: q) req = s :: woP q req := fun q => by unfold woP; simp [e]
      rw [ew] at h ⊢
      obtain ⟨n, hn, h1⟩ := wo_take req r k (by simpa using h)
      exact ⟨n + 1, by simpa using hn, by rw [List.take_succ_cons, List.take_succ_cons, ew, h1]⟩
theorem pre_take {T : Nat} {l : List (Int × Int)} (hR : Rou l) (hT : ∀ s ∈ l, s.1 < T) (hl : l.length ≤ 16) (n : Nat) : PreT T (l.take n) := fun r => by
  have hq := okq_of ((route_iff l).2 ⟨hl, hR⟩)
  by_cases hn : n ≤ l.length
  · rcases okq_sub hq r n hn with h | ⟨h0, h⟩
    · exact .inl h
    · refine .inr ⟨h0, ?_, h⟩
      have hm : (r, (0 : Int)) ∈ sub (l.take n) r := by rcases h with h | h <;> rw [h] <;> simp [pd]
      exact hT _ (List.mem_of_mem_take (List.mem_filter.1 hm).1)
  · rw [List.take_of_length_le (by omega)]
    exact pre_of_rou hR hT r
theorem onK_wo {t : List Rq} {l : List (Int × Int)} (ht : ∀ q ∈ t, rqE q = 0) (hR : Rou l) (hT : ∀ s ∈ l, s.1 < t.length) (hl : l.length ≤ 16) (req : Int) {k : Nat} (hk : k ≤ (woP l req).length) : ∃ n, n ≤ l.length ∧ onK (woP l req) t k ≤ onK l t n := by
  obtain ⟨n, hn, e⟩ := wo_take req l k hk
  refine ⟨n, hn, ?_⟩
  unfold onK
  rw [← e, sum_split (sgL t) req (l.take n)]
  have hp := pre_take hR hT hl n
  have := sub_load (t := t) hp req (fun s hs => by
    have h1 := pre_mem hp hs
    have hn : s.1.toNat < t.length := by omega
    rw [getD_at t hn]
    exact (rqE_all (ht _ (List.getElem_mem hn))).2.2.1.1)
  omega
theorem ptB_of {t : List Rq} {l : List (Int × Int)} (hR : Rou l) (hT : ∀ s ∈ l, s.1 < t.length) : ∀ s ∈ l, ptB s t = true := fun s hs => by
  have h1 := rou_mem hR hs
  have h2 := hT s hs
  unfold ptB ptOf
  rw [if_neg (by omega)]
  rcases h1.2.1 with e | e
  · rw [if_pos e]; rfl
  · rw [if_neg (by omega), if_pos e]; rfl
theorem vehCode_pl {x y cp st en : Int} (h : vehCode x y cp st en = 0) : plB x y = true := by
  unfold vehCode firstV at h
  cases h1 : plB x y <;> rw [h1] at h
  · simp at h
/-- THE LAW: a right route without one of its requests is right; and each of its times is no later -/
theorem right_wo {x y cp st en : Int} {l : List (Int × Int)} {t : List Rq} (h : RightP x y cp st en l t) (req : Int) :
    RightP x y cp st en (woP l req) t ∧ Ste req l (tmP x y cp st en (woP l req) t).1 (tmP x y cp st en l t).1 ∧ (tmP x y cp st en (woP l req) t).2.1 ≤ (tmP x y cp st en l t).2.1 := by
  have hz := (right_iff x y cp st en l t).1 h
  obtain ⟨hv, ht, hl, hR, hT, hk, b, ax', ay', n', h3, h4⟩ := h
  have hvp := vehCode_pl hv
  obtain ⟨a, ax, ay, n, g1, g2, g3⟩ := tm_wo ht req l x y st x y st (fun _ _ _ => Int.le_refl _) hvp (ptB_of hR hT) b ax' ay' n' h3
  have hle := g2 x y hvp
  have hw : RightP x y cp st en (woP l req) t := by
    refine ⟨hv, ht, Nat.le_trans (woP_len _ _) hl, rou_woP hR req, fun s hs => hT s (woP_mem.1 hs).1, fun k hk' => ?_, a, ax, ay, n, g1, by omega⟩
    obtain ⟨m, hm, hle⟩ := onK_wo ht hR hT hl req (k := k + 1) (by omega)
    cases m with
    | zero => rw [onK_zero] at hle; have := (vehCode_zero hv).1; omega
    | succ m => have := hk m (by omega); omega
  have hz2 := (right_iff x y cp st en _ t).1 hw
  have e1 : tmP x y cp st en l t = (b, n' + dsP ax' ay' x y, 0) := by
    have h1 := hz.1
    unfold tmP at h1 ⊢
    by_cases hwr : wrP x y cp st en l t = 0
    · rw [if_neg (by omega), h3]
      simp only
      rw [if_neg (by omega)]
    · rw [if_pos hwr] at h1; exact absurd h1 hwr
  have e2 : tmP x y cp st en (woP l req) t = (a, n + dsP ax ay x y, 0) := by
    have h1 := hz2.1
    unfold tmP at h1 ⊢
    by_cases hwr : wrP x y cp st en (woP l req) t = 0
    · rw [if_neg (by omega), g1]
      simp only
      rw [if_neg (by omega)]
    · rw [if_pos hwr] at h1; exact absurd h1 hwr
  rw [e1, e2]
  exact ⟨hw, g3, hle⟩

end Go.Proofs.Ytpbmeeogledmdae
