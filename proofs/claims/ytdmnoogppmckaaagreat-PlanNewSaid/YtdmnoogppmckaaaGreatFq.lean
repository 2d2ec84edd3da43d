/-
  Layer 9, plain: the route gone along by feas.Check, in three parts: what stands, what is on board, when.
-/
import Derived.Test.YtdmnoogppmckaaaGreatFc
import Derived.Test.YtdmnoogppmckaaaGreatRou
namespace Go.Proofs.YtdmnoogppmckaaaGreat
open Go.RowKit

theorem ptG_of {T : List Rq} {m : Int → Option Int} {s : Int × Int} (h : stB T.length m s = true) (hm : ∀ j, 0 ≤ (m j).getD 0) :
    ptB s T = true ∧ ptG s T = ⟨gX s.2 (T.getD s.1.toNat rqZ0), gY s.2 (T.getD s.1.toNat rqZ0), gE s.2 (T.getD s.1.toNat rqZ0), gL s.2 (T.getD s.1.toNat rqZ0), T.getD s.1.toNat rqZ0 9⟩ := by
  have h1 := stB_true h
  have h2 := hm s.1
  have hk : s.2 = 0 ∨ s.2 = 1 := by omega
  have hr : ¬ (s.1 < 0 ∨ (T.length : Int) ≤ s.1) := by omega
  unfold ptB ptG ptOf gX gY gE gL
  rw [if_neg hr]
  rcases hk with e | e
  · rw [if_pos e, if_pos e, if_pos e, if_pos e, if_pos e]
    exact ⟨rfl, rfl⟩
  · have e0 : ¬ s.2 = 0 := by omega
    rw [if_neg e0, if_pos e, if_neg e0, if_neg e0, if_neg e0, if_neg e0]
    exact ⟨rfl, rfl⟩

theorem win_of {t : List Rq} (ht : ∀ q ∈ t, rqE q = 0) {m : Int → Option Int} {s : Int × Int} (h : stB t.length m s = true) : wiB (gE s.2 (t.getD s.1.toNat rqZ0)) (gL s.2 (t.getD s.1.toNat rqZ0)) = true := by
  have h1 := stB_true h
  have hn : s.1.toNat < t.length := by omega
  have hq := rqE_all (ht (t.getD s.1.toNat rqZ0) (by rw [getD_at t hn]; exact List.getElem_mem hn))
  unfold gE gL wiB
  by_cases e : s.2 = 0
  · rw [if_pos e, if_pos e]
    exact decide_eq_true hq.1
  · rw [if_neg e, if_neg e]
    exact decide_eq_true hq.2.1
def stOkL (T : Nat) : List (Int × Int) → (Int → Option Int) → Bool
  | [], _ => true
  | s :: r, m => stB T m s && stOkL T r (stM T m s)
def ldRun (cp : Int) (t : List Rq) : List (Int × Int) → Int → Option Int
  | [], bd => some bd
  | s :: r, bd => if ldE cp s.2 bd (t.getD s.1.toNat rqZ0 8) = 0 then ldRun cp t r (ldB s.2 bd (t.getD s.1.toNat rqZ0 8)) else none
theorem stM_nn {T : Nat} {m : Int → Option Int} {s : Int × Int} (hm : ∀ j, 0 ≤ (m j).getD 0) : ∀ j, 0 ≤ (stM T m s j).getD 0 := by
  intro j
  unfold stM
  split
  · rename_i h
    have h1 := stB_true h
    have h2 := hm s.1
    show 0 ≤ (if j = s.1 then some (s.2 + 1) else m j).getD 0
    split
    · show 0 ≤ s.2 + 1; omega
    · exact hm j
  · exact hm j
/-- the way of the program's walk is the three parts together -/
theorem fsRun_iff (cp : Int) {t : List Rq} (ht : ∀ q ∈ t, rqE q = 0) : ∀ (l : List (Int × Int)) (m : Int → Option Int) (ax ay now bd ax' ay' n' b' : Int), (∀ j, 0 ≤ (m j).getD 0) →
    (fsRun cp t l m ax ay now bd = some (ax', ay', n', b') ↔ stOkL t.length l m = true ∧ ldRun cp t l bd = some b' ∧ ∃ L, tmRun t l ax ay now = some (L, ax', ay', n'))
  | [], m, ax, ay, now, bd, ax', ay', n', b', hm => by
    unfold fsRun stOkL ldRun tmRun
    constructor
    · intro h
      cases h
      exact ⟨rfl, rfl, [], rfl⟩
    · rintro ⟨_, h1, L, h2⟩
      cases h1
      cases h2
      rfl
  | s :: r, m, ax, ay, now, bd, ax', ay', n', b', hm => by
    rw [tmRun_cons]
    unfold fsRun stOkL ldRun
    by_cases hs : stB t.length m s = true
    · have hg := (ptG_of hs hm).2
      have hw := win_of ht hs
      rw [hg, hs]
      have ewa : waB (gE s.2 (t.getD s.1.toNat rqZ0)) (gL s.2 (t.getD s.1.toNat rqZ0)) (now + dsP ax ay (gX s.2 (t.getD s.1.toNat rqZ0)) (gY s.2 (t.getD s.1.toNat rqZ0))) = decide (gB s.2 (t.getD s.1.toNat rqZ0) ax ay now ≤ gL s.2 (t.getD s.1.toNat rqZ0)) := by
        unfold waB gB
        rw [hw]
        rfl
      have ih := fsRun_iff cp ht r (stM t.length m s) (gX s.2 (t.getD s.1.toNat rqZ0)) (gY s.2 (t.getD s.1.toNat rqZ0)) (gB s.2 (t.getD s.1.toNat rqZ0) ax ay now + t.getD s.1.toNat rqZ0 9) (ldB s.2 bd (t.getD s.1.toNat rqZ0 8)) ax' ay' n' b' (stM_nn hm)
      simp only [ewa]
      by_cases hl : ldE cp s.2 bd (t.getD s.1.toNat rqZ0 8) = 0
      · by_cases hb : gB s.2 (t.getD s.1.toNat rqZ0) ax ay now ≤ gL s.2 (t.getD s.1.toNat rqZ0)
        · have ewn : waN (gE s.2 (t.getD s.1.toNat rqZ0)) (gL s.2 (t.getD s.1.toNat rqZ0)) (now + dsP ax ay (gX s.2 (t.getD s.1.toNat rqZ0)) (gY s.2 (t.getD s.1.toNat rqZ0))) = gB s.2 (t.getD s.1.toNat rqZ0) ax ay now := by
            unfold waN
            rw [ewa, decide_eq_true hb]
            rfl
          rw [if_pos ⟨trivial, hl, Int.not_lt.2 hb⟩, if_pos hl, if_pos (decide_eq_true hb), ewn, ih]
          simp only [Bool.true_and]
          constructor
          · rintro ⟨h1, h2, L, h3⟩
            exact ⟨h1, h2, _, by rw [h3]; rfl⟩
          · rintro ⟨h1, h2, L, h3⟩
            refine ⟨h1, h2, ?_⟩
            obtain ⟨q, hq, he⟩ := Option.map_eq_some_iff.1 h3
            obtain ⟨L', a, b, c⟩ := q
            cases he
            exact ⟨L', hq⟩
        · rw [if_neg (fun h => h.2.2 (by omega)), if_pos hl, if_neg (by rw [decide_eq_false hb]; simp)]
          simp
      · rw [if_neg (fun h => hl h.2.1), if_neg hl]
        simp
    · have hs' : stB t.length m s = false := by simpa using hs
      rw [hs', if_neg (fun h => by cases h.1)]
      simp

/-- what has been gone is the beginning of a route of requests below T -/
def PreT (T : Nat) (l : List (Int × Int)) : Prop := ∀ r, sub l r = [] ∨ (0 ≤ r ∧ r < T ∧ (sub l r = [(r, 0)] ∨ sub l r = pd r))
def InvT (T : Nat) (a : List (Int × Int)) (m : Int → Option Int) : Prop := PreT T a ∧ ∀ r, (m r).getD 0 = ((sub a r).length : Int)
theorem inv_step {T : Nat} {a : List (Int × Int)} {m : Int → Option Int} {s : Int × Int} (h : InvT T a m) (hs : stB T m s = true) : InvT T (a ++ [s]) (stM T m s) := by
  have h1 := stB_true hs
  have hc := h.2 s.1
  have hp := h.1 s.1
  obtain ⟨r0, k⟩ := s
  simp only at h1 hc hp
  refine ⟨fun r => ?_, fun r => ?_⟩
  · rw [sub_append, sub_one]
    by_cases e : r0 = r
    · subst e
      rw [if_pos rfl]
      refine .inr ⟨h1.1, h1.2.1, ?_⟩
      rcases hp with hp | ⟨_, _, hp | hp⟩
      · rw [hp] at hc ⊢
        have : k = 0 := by simp at hc; omega
        subst this
        exact .inl rfl
      · rw [hp] at hc ⊢
        have : k = 1 := by simp at hc; omega
        subst this
        exact .inr rfl
      · rw [hp] at hc
        have : k = 2 := by simp [pd] at hc; omega
        omega
    · rw [if_neg e, List.append_nil]
      exact h.1 r
  · rw [sub_append, sub_one]
    unfold stM
    rw [if_pos hs]
    by_cases e : r0 = r
    · subst e
      rw [if_pos rfl]
      simp only [if_true, List.length_append, List.length_singleton, Option.getD_some]
      omega
    · rw [if_neg e, List.append_nil]
      simp only [if_neg (fun h : r = r0 => e h.symm)]
      exact h.2 r
theorem stOk_pre (T : Nat) : ∀ (l a : List (Int × Int)) (m : Int → Option Int), InvT T a m → stOkL T l m = true → PreT T (a ++ l)
  | [], a, m, h, _ => by rw [List.append_nil]; exact h.1
  | s :: r, a, m, h, hs => by
    unfold stOkL at hs
    rw [Bool.and_eq_true] at hs
    have := stOk_pre T r (a ++ [s]) (stM T m s) (inv_step h hs.1) hs.2
    rwa [List.append_assoc] at this
theorem pre_stOk (T : Nat) : ∀ (l a : List (Int × Int)) (m : Int → Option Int), InvT T a m → PreT T (a ++ l) → stOkL T l m = true
  | [], a, m, h, _ => rfl
  | s :: r, a, m, h, hp => by
    have hq := hp s.1
    rw [sub_append, show s :: r = [s] ++ r from rfl, sub_append, sub_one, if_pos rfl] at hq
    have hc := h.2 s.1
    obtain ⟨r0, k⟩ := s
    simp only at hq hc
    have hs : stB T m (r0, k) = true := by
      rcases hq with hq | ⟨h0, h1, hq | hq⟩
      · simp at hq
      · have e : sub a r0 = [] ∧ (r0, k) = (r0, 0) := by
          cases ha : sub a r0 with
          | nil => rw [ha] at hq; simp at hq; exact ⟨rfl, by rw [hq.1]⟩
          | cons x y => rw [ha] at hq; simp at hq
        rw [e.1] at hc
        obtain rfl : k = 0 := by have := e.2; simpa using this
        exact decide_eq_true ⟨by show ¬ r0 < 0; omega, by show ¬ r0 ≥ (T : Int); omega, by show ¬ (0 : Int) ≥ 2; omega, by show (m r0).getD 0 = 0; rw [hc]; rfl⟩
      · unfold pd at hq
        cases ha : sub a r0 with
        | nil =>
          rw [ha] at hq hc
          simp at hq
          obtain rfl : k = 0 := hq.1
          exact decide_eq_true ⟨by show ¬ r0 < 0; omega, by show ¬ r0 ≥ (T : Int); omega, by show ¬ (0 : Int) ≥ 2; omega, by show (m r0).getD 0 = 0; rw [hc]; rfl⟩
        | cons x y =>
          cases y with
          | nil =>
            rw [ha] at hq hc
            simp at hq
            obtain rfl : k = 1 := hq.2.1
            exact decide_eq_true ⟨by show ¬ r0 < 0; omega, by show ¬ r0 ≥ (T : Int); omega, by show ¬ (1 : Int) ≥ 2; omega, by show (m r0).getD 0 = 1; rw [hc]; rfl⟩
          | cons z u => rw [ha] at hq; simp at hq
    unfold stOkL
    rw [hs]
    refine (Bool.true_and _).trans (pre_stOk T r (a ++ [(r0, k)]) (stM T m (r0, k)) (inv_step h hs) ?_)
    rwa [List.append_assoc]
theorem stOk_iff (T : Nat) (l : List (Int × Int)) : stOkL T l (fun _ => none) = true ↔ PreT T l := by
  have h0 : InvT T [] (fun _ => none) := ⟨fun r => .inl rfl, fun r => rfl⟩
  exact ⟨fun h => stOk_pre T l [] _ h0 h, fun h => pre_stOk T l [] _ h0 h⟩

theorem onK_cons (s : Int × Int) (r : List (Int × Int)) (t : List Rq) (k : Nat) : onK (s :: r) t (k + 1) = sgL t s + onK r t k := by
  unfold onK
  simp
theorem ldRun_iff (cp : Int) (t : List Rq) : ∀ (l : List (Int × Int)) (bd b' : Int), (∀ s ∈ l, (s.2 = 0 ∨ s.2 = 1) ∧ 0 ≤ t.getD s.1.toNat rqZ0 8) → bd ≤ cp →
    (ldRun cp t l bd = some b' ↔ b' = bd + (l.map (sgL t)).sum ∧ ∀ k, k < l.length → bd + onK l t (k + 1) ≤ cp)
  | [], bd, b', _, _ => by
    unfold ldRun
    constructor
    · intro h
      cases h
      exact ⟨by simp, fun k hk => by simp at hk⟩
    · rintro ⟨h, _⟩
      rw [h]
      simp
  | s :: r, bd, b', hs, hb => by
    have h1 := hs s List.mem_cons_self
    have hB : ldB s.2 bd (t.getD s.1.toNat rqZ0 8) = bd + sgL t s := by
      unfold ldB sgL
      rcases h1.1 with e | e <;> simp [e] <;> omega
    unfold ldRun
    rw [hB]
    by_cases hE : ldE cp s.2 bd (t.getD s.1.toNat rqZ0 8) = 0
    · rw [if_pos hE]
      have hle : bd + sgL t s ≤ cp := by
        unfold ldE at hE
        unfold sgL
        rcases h1.1 with e | e
        · rw [if_neg (by omega)] at hE
          rw [if_pos e]
          split at hE <;> omega
        · rw [if_neg (by omega)]
          omega
      rw [ldRun_iff cp t r (bd + sgL t s) b' (fun x hx => hs x (List.mem_cons_of_mem _ hx)) hle, List.map_cons, List.sum_cons]
      constructor
      · rintro ⟨h2, h3⟩
        refine ⟨by omega, fun k hk => ?_⟩
        rw [onK_cons]
        cases k with
        | zero => rw [onK_zero]; omega
        | succ k =>
          have := h3 k (by simpa using hk)
          omega
      · rintro ⟨h2, h3⟩
        refine ⟨by omega, fun k hk => ?_⟩
        have := h3 (k + 1) (by simpa using hk)
        rw [onK_cons] at this
        omega
    · rw [if_neg hE]
      constructor
      · intro h; cases h
      · rintro ⟨_, h3⟩
        exfalso
        apply hE
        have := h3 0 (by simp)
        rw [onK_cons, onK_zero] at this
        unfold ldE
        unfold sgL at this
        rcases h1.1 with e | e
        · rw [if_neg (by omega), if_neg]
          rw [if_pos e] at this
          omega
        · rw [if_pos e]

theorem sum_split (f : Int × Int → Int) (r : Int) : ∀ l : List (Int × Int), (l.map f).sum = ((sub l r).map f).sum + ((woP l r).map f).sum
  | [] => rfl
  | s :: l => by
    have ih := sum_split f r l
    unfold sub woP at *
    by_cases e : s.1 = r
    · simp [e, ih] <;> omega
    · simp [e, ih] <;> omega
theorem woP_lt {l : List (Int × Int)} {s : Int × Int} (h : s ∈ l) : (woP l s.1).length < l.length := by
  unfold woP
  exact List.length_filter_lt_length_iff_exists.2 ⟨s, h, by simp⟩
theorem pre_sum (T : Nat) (t : List Rq) : ∀ (n : Nat) (l : List (Int × Int)), l.length ≤ n → PreT T l → (∀ s ∈ l, 1 ≤ t.getD s.1.toNat rqZ0 8) → 0 ≤ (l.map (sgL t)).sum ∧ ((l.map (sgL t)).sum ≤ 0 ↔ Rou l)
  | 0, l, hn, _, _ => by
    obtain rfl : l = [] := List.length_eq_zero_iff.1 (by omega)
    exact ⟨Int.le_refl _, fun _ r => .inl rfl, fun _ => Int.le_refl _⟩
  | n + 1, [], _, _, _ => ⟨Int.le_refl _, fun _ r => .inl rfl, fun _ => Int.le_refl _⟩
  | n + 1, s :: l, hn, hp, hq => by
    have hs : s ∈ s :: l := List.mem_cons_self
    have hlt := woP_lt hs
    obtain ⟨i1, i2⟩ := pre_sum T t n (woP (s :: l) s.1) (by omega) (fun r => by
      rw [sub_woP]
      split
      · exact .inl rfl
      · exact hp r) (fun x hx => hq x (woP_mem.1 hx).1)
    rw [sum_split (sgL t) s.1]
    have hq1 := hq s hs
    have hne : sub (s :: l) s.1 ≠ [] := fun h => (sub_nil_iff _ _).1 h s hs rfl
    have hrest : Rou (s :: l) → Rou (woP (s :: l) s.1) := fun h => rou_woP h _
    have e1 : sgL t (s.1, 0) = t.getD s.1.toNat rqZ0 8 := by unfold sgL; simp
    have e2 : sgL t (s.1, 1) = - t.getD s.1.toNat rqZ0 8 := by unfold sgL; simp
    rcases hp s.1 with h | ⟨h0, _, h | h⟩
    · exact absurd h hne
    · rw [h]
      simp only [List.map_cons, List.map_nil, List.sum_cons, List.sum_nil, e1]
      refine ⟨by omega, fun hh => by omega, fun hR => ?_⟩
      rcases hR s.1 with h3 | ⟨_, h3⟩
      · exact absurd h3 hne
      · rw [h] at h3
        simp [pd] at h3
    · rw [h]
      simp only [pd, List.map_cons, List.map_nil, List.sum_cons, List.sum_nil, e1, e2]
      refine ⟨by omega, fun hh r => ?_, fun hR => ?_⟩
      · by_cases e : r = s.1
        · subst e
          exact .inr ⟨h0, h⟩
        · have := i2.1 (by omega) r
          rwa [sub_woP, if_neg e] at this
      · have := i2.2 (hrest hR)
        omega

/-- a route is right: plain -/
def RightP (x y cp st en : Int) (l : List (Int × Int)) (t : List Rq) : Prop :=
  vehCode x y cp st en = 0 ∧ (∀ q ∈ t, rqE q = 0) ∧ l.length ≤ 16 ∧ Rou l ∧ (∀ s ∈ l, s.1 < t.length) ∧ (∀ k, k < l.length → onK l t (k + 1) ≤ cp) ∧ ∃ L ax ay now, tmRun t l x y st = some (L, ax, ay, now) ∧ now + dsP ax ay x y ≤ en
theorem pre_of_rou {T : Nat} {l : List (Int × Int)} (h : Rou l) (hT : ∀ s ∈ l, s.1 < T) : PreT T l := fun r => by
  rcases h r with h1 | ⟨h0, h1⟩
  · exact .inl h1
  · refine .inr ⟨h0, ?_, .inr h1⟩
    have hm : (r, (0 : Int)) ∈ sub l r := by rw [h1]; simp [pd]
    exact hT _ (List.mem_filter.1 hm).1
theorem pre_mem {T : Nat} {l : List (Int × Int)} (h : PreT T l) {s : Int × Int} (hs : s ∈ l) : 0 ≤ s.1 ∧ s.1 < T ∧ (s.2 = 0 ∨ s.2 = 1) := by
  have hm : s ∈ sub l s.1 := List.mem_filter.2 ⟨hs, by simp⟩
  rcases h s.1 with h1 | ⟨h0, hT, h1 | h1⟩
  · rw [h1] at hm; simp at hm
  · rw [h1] at hm
    simp at hm
    refine ⟨h0, hT, .inl ?_⟩
    rw [hm]
  · rw [h1] at hm
    simp [pd] at hm
    refine ⟨h0, hT, ?_⟩
    rcases hm with h2 | h2
    · left; rw [h2]
    · right; rw [h2]
theorem fsB_iff (x y cp st en : Int) (l : List (Int × Int)) (t : List Rq) : fsB x y cp st en l t = true ↔ RightP x y cp st en l t := by
  unfold fsB RightP
  simp only [Bool.and_eq_true, decide_eq_true_eq, List.all_eq_true, beq_iff_eq, and_assoc]
  refine and_congr_right fun hv => and_congr_right fun ht => and_congr_right fun hl => ?_
  obtain ⟨hc1, hc2, _⟩ := vehCode_zero hv
  have hld : PreT t.length l → ∀ s ∈ l, (s.2 = 0 ∨ s.2 = 1) ∧ 1 ≤ t.getD s.1.toNat rqZ0 8 := fun hp s hs => by
    have h1 := pre_mem hp hs
    have hn : s.1.toNat < t.length := by omega
    refine ⟨h1.2.2, ?_⟩
    rw [getD_at t hn]
    exact (rqE_all (ht _ (List.getElem_mem hn))).2.2.1.1
  have hon : onK l t l.length = (l.map (sgL t)).sum := by unfold onK; rw [List.take_length]
  constructor
  · intro h
    cases hf : fsRun cp t l (fun _ => none) x y st 0 with
    | none => rw [hf] at h; simp [fsEnd] at h
    | some R =>
      obtain ⟨ax, ay, now, bd⟩ := R
      rw [hf] at h
      have h := of_decide_eq_true (show decide (¬ bd > 0 ∧ ¬ now + dsP ax ay x y > en) = true from h)
      obtain ⟨h1, h2, L, h3⟩ := (fsRun_iff cp ht l _ x y st 0 ax ay now bd (fun _ => Int.le_refl _)).1 hf
      have hp := (stOk_iff _ _).1 h1
      obtain ⟨e, h4⟩ := (ldRun_iff cp t l 0 bd (fun s hs => ⟨(hld hp s hs).1, by have := (hld hp s hs).2; omega⟩) (by omega)).1 h2
      have hR := (pre_sum t.length t l.length l (Nat.le_refl _) hp (fun s hs => (hld hp s hs).2)).2.1 (by omega)
      exact ⟨hR, fun s hs => (pre_mem hp hs).2.1, fun k hk => by have := h4 k hk; omega, L, ax, ay, now, h3, by omega⟩
  · rintro ⟨hR, hT, hk, L, ax, ay, now, h3, h4⟩
    have hp := pre_of_rou hR hT
    have hS := pre_sum t.length t l.length l (Nat.le_refl _) hp (fun s hs => (hld hp s hs).2)
    have hz := hS.2.2 hR
    have h2 := (ldRun_iff cp t l 0 ((l.map (sgL t)).sum) (fun s hs => ⟨(hld hp s hs).1, by have := (hld hp s hs).2; omega⟩) (by omega)).2 ⟨by omega, fun k hk' => by have := hk k hk'; omega⟩
    rw [(fsRun_iff cp ht l _ x y st 0 ax ay now _ (fun _ => Int.le_refl _)).2 ⟨(stOk_iff _ _).2 hp, h2, L, h3⟩]
    exact decide_eq_true ⟨by omega, by omega⟩

theorem right_iff (x y cp st en : Int) (l : List (Int × Int)) (t : List Rq) : RightP x y cp st en l t ↔ (tmP x y cp st en l t).2.2 = 0 ∧ (fitP x y cp st en l t).2 = 0 := by
  constructor
  · rintro ⟨hv, ht, hl, hR, hT, hk, L, ax, ay, now, h3, h4⟩
    have hc : chkP l = 0 := (route_iff l).2 ⟨hl, hR⟩
    have hw : wrP x y cp st en l t = 0 := by
      unfold wrP
      rw [if_neg (by omega), if_neg (by simpa using ht), if_neg (by omega), if_neg]
      simp only [Bool.not_eq_true, List.any_eq_false, Bool.not_eq_eq_eq_not]
      intro s hs
      have h1 := rou_mem hR hs
      have h2 := hT s hs
      unfold ptB ptOf
      rw [if_neg (by omega)]
      rcases h1.2.1 with e | e
      · rw [if_pos e]; simp
      · rw [if_neg (by omega), if_pos e]; simp
    have hto : toldP l t = 0 := by
      unfold toldP
      rw [if_neg (by omega), if_neg, if_neg]
      · simp only [Bool.not_eq_true, List.any_eq_false, bne_iff_ne, ne_eq, Decidable.not_not]
        intro s hs
        have h1 := rou_mem hR hs
        have h2 := hT s hs
        have hn : s.1.toNat < t.length := by omega
        rw [getD_at t hn]
        simpa using ht _ (List.getElem_mem hn)
      · simp only [Bool.not_eq_true, List.any_eq_false, decide_eq_true_eq]
        intro s hs
        have := hT s hs
        omega
    refine ⟨?_, ?_⟩
    · unfold tmP
      rw [if_neg (by omega), h3]
      simp only
      rw [if_neg (by omega)]
    · unfold fitP
      rw [if_neg (by omega), if_neg (by omega), fullAt_none (fun j hj => by have := hk j hj; omega)]
  · rintro ⟨h1, h2⟩
    unfold tmP at h1
    by_cases hw : wrP x y cp st en l t = 0
    · rw [if_neg (by omega)] at h1
      obtain ⟨hv, ht, hc, hpt⟩ := wrP_zero hw
      obtain ⟨hl, hR⟩ := (route_iff l).1 hc
      have hT : ∀ s ∈ l, s.1 < t.length := fun s hs => by
        obtain ⟨n, e, hn, _⟩ := pt_there (hpt s hs)
        omega
      unfold fitP at h2
      rw [if_neg (by omega)] at h2
      by_cases hto : toldP l t = 0
      · rw [if_neg (by omega)] at h2
        cases hf : fullAt cp l t with
        | some k => rw [hf] at h2; simp at h2
        | none =>
          have hk : ∀ k, k < l.length → onK l t (k + 1) ≤ cp := fun k hk => by
            unfold fullAt at hf
            have := List.find?_eq_none.1 hf k (by simpa using hk)
            simpa using this
          cases hr : tmRun t l x y st with
          | none => rw [hr] at h1; simp at h1
          | some R =>
            obtain ⟨L, ax, ay, now⟩ := R
            rw [hr] at h1
            simp only at h1
            by_cases hlt : en < now + dsP ax ay x y
            · rw [if_pos hlt] at h1; simp at h1
            · exact ⟨hv, ht, hl, hR, hT, hk, L, ax, ay, now, hr, by omega⟩
      · rw [if_pos hto] at h2
        exact absurd h2 hto
    · rw [if_pos hw] at h1
      exact absurd h1 hw

end Go.Proofs.YtdmnoogppmckaaaGreat
