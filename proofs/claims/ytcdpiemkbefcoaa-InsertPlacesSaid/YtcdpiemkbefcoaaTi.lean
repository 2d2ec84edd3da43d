/-
  Layer 7: times, as a plain value; the document's Times.
-/
import Derived.Test.YtcdpiemkbefcoaaWrR
namespace Go.Proofs.Ytcdpiemkbefcoaa
open Go.RowKit

theorem own_mod {w w' : World} {base n k : Nat} {E : TypeId} {v : Value} {xs : List Value} (h : w.ownsRow base E n v k xs) {S : Nat → Prop} (hm : Mod S w w') (hs : ∀ g, v.ownBlock = some g → ¬ S g) : w'.ownsRow base E n v k xs := by
  refine ⟨h.1, ?_⟩
  rcases h.2 with h1 | ⟨g, cap, cur, hv, hg, hw, r⟩
  · exact .inl h1
  · refine .inr ⟨g, cap, cur, hv, hg, ?_, r⟩
    have hlt := (Array.getElem?_eq_some_iff.1 hw).1
    exact (hm.block g hlt (hs g (by rw [hv]; rfl))).trans hw
theorem own_below {w w' : World} {base n k : Nat} {E : TypeId} {v : Value} {xs : List Value} (h : w.ownsRow base E n v k xs) (hb : Below w.heap.size w w') : w'.ownsRow base E n v k xs :=
  own_mod h ((Mod.refl (fun _ => False) w).after hb) (fun _ _ h => h)
abbrev Tms := List (Int × Int × Int)
def tmV (x : Int × Int × Int) : List Value := [.int .i64 x.1, .int .i64 x.2.1, .int .i64 x.2.2]
theorem tmV_len (L : Tms) : ∀ x ∈ L.map tmV, x.length = 3 := by
  intro x hx
  obtain ⟨s, _, rfl⟩ := List.mem_map.1 hx
  rfl
/-- from stop to stop: the times, where it is then, and when; none: too late -/
def tmRun (t : List Rq) : List (Int × Int) → Int → Int → Int → Option (Tms × Int × Int × Int)
  | [], ax, ay, now => some ([], ax, ay, now)
  | s :: r, ax, ay, now =>
    if waB (ptG s t).e (ptG s t).l (now + dsP ax ay (ptG s t).x (ptG s t).y) = true then
      (tmRun t r (ptG s t).x (ptG s t).y (waN (ptG s t).e (ptG s t).l (now + dsP ax ay (ptG s t).x (ptG s t).y) + (ptG s t).s)).map fun q =>
        ((now + dsP ax ay (ptG s t).x (ptG s t).y, waN (ptG s t).e (ptG s t).l (now + dsP ax ay (ptG s t).x (ptG s t).y), waN (ptG s t).e (ptG s t).l (now + dsP ax ay (ptG s t).x (ptG s t).y) + (ptG s t).s) :: q.1, q.2)
    else none
/-- the times, the end, and the error -/
def tmP (x y cp st en : Int) (l : List (Int × Int)) (t : List Rq) : Tms × Int × Int :=
  if wrP x y cp st en l t ≠ 0 then ([], 0, wrP x y cp st en l t)
  else match tmRun t l x y st with
    | none => ([], 0, 9)
    | some (L, ax, ay, now) => if en < now + dsP ax ay x y then ([], 0, 9) else (L, now + dsP ax ay x y, 0)
theorem waN_bd {e l a : Int} (h : waB e l a = true) : 0 ≤ waN e l a ∧ waN e l a ≤ 1048576 := by
  unfold waN
  rw [if_pos h]
  unfold waB at h
  rw [Bool.and_eq_true] at h
  have h1 := of_decide_eq_true h.1
  have h2 := of_decide_eq_true h.2
  have h3 : e ≤ mx a e := by unfold mx; split <;> omega
  omega
theorem rqE_serve {q : Rq} (h : rqE q = 0) : 0 ≤ q 9 ∧ q 9 ≤ 1000 := by
  unfold rqE rqCode firstC at h
  cases h1 : (plB (q 0) (q 1) && plB (q 2) (q 3)) <;> rw [h1] at h
  · simp at h
  cases h2 : (wiB (q 4) (q 5) && wiB (q 6) (q 7)) <;> rw [h2] at h
  · simp at h
  cases h3 : (decide (1 ≤ q 8 ∧ q 8 ≤ 1000) && decide (0 ≤ q 9 ∧ q 9 ≤ 1000)) <;> rw [h3] at h
  · simp at h
  rw [Bool.and_eq_true] at h3
  exact of_decide_eq_true h3.2
/-- what is known where nothing is wrong -/
theorem wrP_zero {x y cp st en : Int} {l : List (Int × Int)} {t : List Rq} (h : wrP x y cp st en l t = 0) :
    vehCode x y cp st en = 0 ∧ (∀ q ∈ t, rqE q = 0) ∧ chkP l = 0 ∧ ∀ s ∈ l, ptB s t = true := by
  unfold wrP at h
  by_cases h1 : vehCode x y cp st en ≠ 0
  · rw [if_pos h1] at h; cases h
  rw [if_neg h1] at h
  by_cases h2 : t.any (fun q => rqE q != 0) = true
  · rw [if_pos h2] at h; cases h
  rw [if_neg h2] at h
  by_cases h3 : chkP l ≠ 0
  · rw [if_pos h3] at h; cases h
  rw [if_neg h3] at h
  by_cases h4 : l.any (fun s => !ptB s t) = true
  · rw [if_pos h4] at h; cases h
  refine ⟨by simpa using h1, fun q hq => ?_, by simpa using h3, fun s hs => ?_⟩
  · by_cases e : rqE q = 0
    · exact e
    · exact absurd (List.any_eq_true.2 ⟨q, hq, by simpa using e⟩) h2
  · cases e : ptB s t with
    | true => rfl
    | false => exact absurd (List.any_eq_true.2 ⟨s, hs, by rw [e]; rfl⟩) h4
theorem vehCode_zero {x y cp st en : Int} (h : vehCode x y cp st en = 0) : 1 ≤ cp ∧ cp ≤ 100000 ∧ 0 ≤ st ∧ st ≤ en ∧ en ≤ 1048576 := by
  unfold vehCode firstV at h
  cases h1 : plB x y <;> rw [h1] at h
  · simp at h
  cases h2 : (decide (1 ≤ cp ∧ cp ≤ 100000) && (decide (0 ≤ st ∧ st ≤ en) && decide (0 ≤ en ∧ en ≤ 1048576))) <;> rw [h2] at h
  · simp at h
  simp only [Bool.and_eq_true, decide_eq_true_eq] at h2
  omega
/-- a stop that has a part: its request is there -/
theorem pt_there {s : Int × Int} {t : List Rq} (h : ptB s t = true) : ∃ n : Nat, s.1 = n ∧ ∃ hn : n < t.length, (ptG s t).s = t[n] 9 := by
  unfold ptB at h
  unfold ptG
  unfold ptOf at h ⊢
  by_cases h1 : s.1 < 0 ∨ (t.length : Int) ≤ s.1
  · rw [if_pos h1] at h; cases h
  · rw [if_neg h1] at h ⊢
    have hn : s.1.toNat < t.length := by omega
    refine ⟨s.1.toNat, by omega, hn, ?_⟩
    by_cases h2 : s.2 = 0
    · rw [if_pos h2, getD_at t hn]; rfl
    · rw [if_neg h2] at h ⊢
      by_cases h3 : s.2 = 1
      · rw [if_pos h3, getD_at t hn]; rfl
      · rw [if_neg h3] at h; cases h
theorem tm_size (a b c : Int) : (Try.prog.info? 98).map (·.size) = some (tmV (a, b, c)).toArray.size := by kernel_rfl
theorem tm_one (x : Int × Int × Int) : ∀ v ∈ tmV x, v.oneCell' = true := by simp [tmV, Value.oneCell']
theorem run_tm (a : Int) (w : World) : (Instr.build 98 #[(0, .int .i64 a)]).run Try.prog w = .ok (.agg (tmV (a, 0, 0)).toArray) w := by kernel_rfl
theorem tm_el : ElT Try.prog 66 98 3 24 := ⟨Try.underlying66, by kernel_rfl, by kernel_rfl, by kernel_rfl, by omega, by omega⟩
theorem rsl_tm (x : Int × Int × Int) (w : World) : (Instr.buildSlice 66 1 #[(0, .agg (tmV x).toArray)]).run Try.prog w = .ok (.slice (some ⟨w.heap.size, 0, none⟩) 1 1) (w.alloc (.cells (tmV x).toArray 98)) := by kernel_rfl
/-- what Times answers -/
def TmPost (w : World) (R : Tms × Int × Int) (e : Ending) (w' : World) : Prop :=
  ∃ p c, e = .returned (.tuple #[.slice p R.1.length c, .int .i64 R.2.1, .int .i64 R.2.2]) ∧ Below w.heap.size w w' ∧ Els w' p 3 (R.1.map tmV) ∧ R.1.length ≤ c ∧ c ≤ 9223372036854775807 ∧ ∀ a, p = some a → w.heap.size ≤ a.block ∧ a.spot = none
theorem tm_none {w w' : World} {k e : Int} {E : Ending} (hE : E = .returned (.tuple #[.slice none 0 0, .int .i64 k, .int .i64 e])) (hb : Below w.heap.size w w') : TmPost w ([], k, e) E w' :=
  ⟨none, 0, hE, hb, ⟨(fun _ => rfl), (fun x hx => by cases hx), by show 0 ≤ _; omega, (fun a ha => by cases ha)⟩, Nat.le_refl _, by omega, fun a ha => by cases ha⟩
end Go.Proofs.Ytcdpiemkbefcoaa
