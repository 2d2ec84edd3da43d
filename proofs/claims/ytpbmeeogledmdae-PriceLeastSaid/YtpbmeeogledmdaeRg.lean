/-
  Layer 11, plain: a request may be put at two places just if the route with it is right; rises and detours are not below 0.
-/
import Derived.Test.YtpbmeeogledmdaeTr
import Derived.Test.YtpbmeeogledmdaeCs
import Derived.Test.YtpbmeeogledmdaeDd
namespace Go.Proofs.Ytpbmeeogledmdae
open Go.RowKit

theorem tmRun_late {t : List Rq} (ht : ∀ q ∈ t, rqE q = 0) : ∀ (m : List (Int × Int)) (ax ay now : Int), (∀ s ∈ m, ptB s t = true) → ∀ b X Y N, tmRun t m ax ay now = some (b, X, Y, N) → now ≤ N
  | [], ax, ay, now, _, b, X, Y, N, h => by cases h; exact Int.le_refl _
  | s :: r, ax, ay, now, hs, b, X, Y, N, h => by
    obtain ⟨_, hsv⟩ := pt_pl ht (hs s (by simp))
    rw [tmRun_cons] at h
    by_cases hw : waB (ptG s t).e (ptG s t).l (now + dsP ax ay (ptG s t).x (ptG s t).y) = true
    · rw [if_pos hw] at h
      obtain ⟨q, hq, he⟩ := Option.map_eq_some_iff.1 h
      obtain ⟨b', x1, y1, n1⟩ := q
      cases he
      have ih := tmRun_late ht r _ _ _ (fun u hu => hs u (by simp [hu])) b' X Y N hq
      have h1 := (mx_ge (now + dsP ax ay (ptG s t).x (ptG s t).y) (ptG s t).e).1
      have h2 := (dsP_bd ax ay (ptG s t).x (ptG s t).y).1
      have hwn : waN (ptG s t).e (ptG s t).l (now + dsP ax ay (ptG s t).x (ptG s t).y) = mx (now + dsP ax ay (ptG s t).x (ptG s t).y) (ptG s t).e := by unfold waN; rw [if_pos hw]
      rw [hwn] at ih
      omega
    · rw [if_neg hw] at h; cases h
theorem tm_right {x y cp st en : Int} {l : List (Int × Int)} {t : List Rq} (h : RightP x y cp st en l t) : (tmP x y cp st en l t).2.2 = 0 ∧ st ≤ (tmP x y cp st en l t).2.1 ∧ (tmP x y cp st en l t).2.1 ≤ en ∧ 0 ≤ st ∧ en ≤ 1048576 ∧ (tmP x y cp st en l t).1.length = l.length := by
  have hz := ((right_iff x y cp st en l t).1 h).1
  have hS := ste_len (right_wo h (-1)).2.1
  obtain ⟨hv, ht, hl, hR, hT, hk, b, ax', ay', n', h3, h4⟩ := h
  have hb := vehCode_zero hv
  have hla := tmRun_late ht l x y st (ptB_of hR hT) b ax' ay' n' h3
  have hd := (dsP_bd ax' ay' x y).1
  refine ⟨hz, ?_, ?_, by omega, by omega, hS.2⟩
  · unfold tmP at hz ⊢
    by_cases hwr : wrP x y cp st en l t = 0
    · rw [if_neg (by omega), h3]
      simp only
      rw [if_neg (by omega)]
      dsimp only
      omega
    · rw [if_pos hwr] at hz; exact absurd hz hwr
  · unfold tmP at hz ⊢
    by_cases hwr : wrP x y cp st en l t = 0
    · rw [if_neg (by omega), h3]
      simp only
      rw [if_neg (by omega)]
      exact h4
    · rw [if_pos hwr] at hz; exact absurd hz hwr
theorem putP_right {x y cp st en : Int} {l : List (Int × Int)} {t : List Rq} {req : Int} {i j : Nat} (hij : i ≤ j) (hj : j ≤ l.length) (hr : 0 ≤ req ∧ req < t.length) (hn : ∀ s ∈ l, s.1 ≠ req) (hl : l.length ≤ 14) (h0 : (tmP x y cp st en l t).2.2 = 0) :
    putP x y cp st en l t req i j = (withL l req i j, (tmP x y cp st en l t).2.1, 0) := by
  have ha : ¬ l.any (fun s => s.1 == req) = true := by
    rw [List.any_eq_true]
    rintro ⟨s, hs, e⟩
    exact hn s hs (by simpa using e)
  unfold putP
  rw [if_neg (by simp only [not_or]; exact ⟨by omega, by omega, ha⟩), if_neg (by omega), if_neg (by omega), withP_some hij hj hr.1 hn hl]
  rfl
/-- where the route with it is right -/
theorem rise_right {x y cp st en : Int} {l : List (Int × Int)} {t : List Rq} {req : Int} {i j : Nat} (hij : i ≤ j) (hj : j ≤ l.length) (hr : 0 ≤ req ∧ req < t.length) (hn : ∀ s ∈ l, s.1 ≠ req) (hl : l.length ≤ 14) (h : RightP x y cp st en (withL l req i j) t) :
    RightP x y cp st en l t ∧ riseP x y cp st en l t req i j = ((tmP x y cp st en (withL l req i j) t).2.1 - (tmP x y cp st en l t).2.1, 0) ∧ 0 ≤ (tmP x y cp st en (withL l req i j) t).2.1 - (tmP x y cp st en l t).2.1 := by
  obtain ⟨h1, h2, h3⟩ := right_wo h req
  rw [woP_withL hn hij] at h1 h2 h3
  have hm := tm_right h
  have hl1 := tm_right h1
  have hf := ((right_iff x y cp st en _ t).1 h).2
  refine ⟨h1, ?_, by omega⟩
  unfold riseP
  rw [putP_right hij hj hr hn hl hl1.1]
  dsimp only
  rw [if_neg (by omega), if_neg (by omega), if_neg (by omega), IntWalk.wrap64_in _ (by omega)]
/-- where it is not -/
theorem rise_wrong {x y cp st en : Int} {l : List (Int × Int)} {t : List Rq} {req : Int} {i j : Nat} (hij : i ≤ j) (hj : j ≤ l.length) (hr : 0 ≤ req ∧ req < t.length) (hn : ∀ s ∈ l, s.1 ≠ req) (hl : l.length ≤ 14) (h : ¬ RightP x y cp st en (withL l req i j) t) :
    (riseP x y cp st en l t req i j).1 = 0 ∧ (riseP x y cp st en l t req i j).2 ≠ 0 := by
  unfold riseP
  by_cases h1 : (putP x y cp st en l t req i j).2.2 ≠ 0
  · rw [if_pos h1]; exact ⟨rfl, h1⟩
  rw [if_neg h1]
  by_cases h2 : (fitP x y cp st en (putP x y cp st en l t req i j).1 t).2 ≠ 0
  · rw [if_pos h2]; exact ⟨rfl, h2⟩
  rw [if_neg h2]
  by_cases h3 : (tmP x y cp st en (putP x y cp st en l t req i j).1 t).2.2 ≠ 0
  · rw [if_pos h3]; exact ⟨rfl, h3⟩
  exfalso
  obtain ⟨_, _, hw, _, _, _⟩ := putP_zero (by simpa using h1)
  rw [withP_some hij hj hr.1 hn hl] at hw
  cases hw' : (putP x y cp st en l t req i j).1 with
  | _ =>
    rw [← Option.some.inj hw] at h2 h3
    exact h ((right_iff x y cp st en _ t).2 ⟨by simpa using h3, by simpa using h2⟩)
end Go.Proofs.Ytpbmeeogledmdae
