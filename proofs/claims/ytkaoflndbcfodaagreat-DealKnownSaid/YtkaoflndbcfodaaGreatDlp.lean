/-
  Layer 28, plain: a deal's checks by the plans' routes alone; the chapter's examples. 
-/
import Derived.Test.YtkaoflndbcfodaaGreatDen
import Derived.Test.YtkaoflndbcfodaaGreatDes
namespace Go.Proofs.YtkaoflndbcfodaaGreat
open Go.RowKit

def cntR (Rs : List (List Rou2)) (t : List Rq) : Nat → Int → Option Int
  | 0 => fun _ => none
  | k + 1 => (allQ (Rs.getD k []) t).foldl updM (cntR Rs t k)
def holdER (Rs : List (List Rou2)) (t : List Rq) (H : List Int) (r : Nat) : Int :=
  if ¬ (0 ≤ H.getD r 0 ∧ H.getD r 0 < (Rs.length : Int)) ∨ decide (0 ≤ whereP (Rs.getD (H.getD r 0).toNat []) r) = false then 12
  else if 1 < ((cntR Rs t Rs.length (r : Int)).getD 0) then 13 else 0
def holdKR (Rs : List (List Rou2)) (t : List Rq) (H : List Int) : Nat → Int
  | 0 => 0
  | r + 1 => if holdKR Rs t H r ≠ 0 then holdKR Rs t H r else holdER Rs t H r
def rwsO (Q : List (Option Pc)) : List (List Rou2) := Q.map fun o => (o.getD pc0).rows
theorem rwsO_at (Q : List (Option Pc)) (i : Nat) : (rwsO Q).getD i [] = ((Q.getD i none).getD pc0).rows := by
  unfold rwsO
  rw [List.getD_eq_getElem?_getD, List.getElem?_map, List.getD_eq_getElem?_getD]
  cases Q[i]? with
  | none => rfl
  | some o => rfl
theorem cntM_R (Q : List (Option Pc)) (t : List Rq) : ∀ k, cntM Q t k = cntR (rwsO Q) t k
  | 0 => rfl
  | k + 1 => by
    rw [cntM_succ, cntM_R Q t k]
    show _ = (allQ ((rwsO Q).getD k []) t).foldl updM (cntR (rwsO Q) t k)
    rw [rwsO_at]
theorem holdK_R (Q : List (Option Pc)) (t : List Rq) (H : List Int) : ∀ k, holdK Q t H k = holdKR (rwsO Q) t H k
  | 0 => rfl
  | k + 1 => by
    have e : holdE Q t H k = holdER (rwsO Q) t H k := by
      unfold holdE holdER
      rw [cntM_R, rwsO_at, show (rwsO Q).length = Q.length from by unfold rwsO; rw [List.length_map]]
      rfl
    show (if holdK Q t H k ≠ 0 then holdK Q t H k else holdE Q t H k) = if holdKR (rwsO Q) t H k ≠ 0 then holdKR (rwsO Q) t H k else holdER (rwsO Q) t H k
    rw [holdK_R Q t H k, e]
theorem dlC_two {P Q : Pc} {t : List Rq} {H : List Int} (hne : P.b ≠ Q.b) (hH : H.length ≤ 64) : dlC [some P, some Q] t H = holdKR [P.rows, Q.rows] t H H.length := by
  have h1 : ¬ ([some P, some Q].length < 1 ∨ 8 < [some P, some Q].length ∨ 64 < H.length) := by simp; omega
  have h2 : (List.range [some P, some Q].length).any (fun k => decide (ptrA ([some P, some Q].getD k none) = none)) = false := rfl
  have h3 : (List.range [some P, some Q].length).any (twiceAt [some P, some Q]) = false := by
    have hp : ¬ ptrA (some P) = ptrA (some Q) := fun e => hne (by
      have : (⟨P.b, 0, none⟩ : Addr) = ⟨Q.b, 0, none⟩ := Option.some.inj e
      exact congrArg Addr.block this)
    have e0 : twiceAt [some P, some Q] 0 = false := by
      unfold twiceAt
      simp [List.range_succ]
    have e1 : twiceAt [some P, some Q] 1 = false := by
      unfold twiceAt
      simp [List.range_succ, hp]
    show (List.range 2).any _ = false
    simp [List.range_succ, e0, e1]
  unfold dlC
  rw [if_neg h1, if_neg (by rw [h2]; simp), if_neg (by rw [h3]; simp), holdK_R]
  rfl
theorem dlC_same {P : Pc} {t : List Rq} {H : List Int} (hH : H.length ≤ 64) : dlC [some P, some P] t H = 13 := by
  have h1 : ¬ ([some P, some P].length < 1 ∨ 8 < [some P, some P].length ∨ 64 < H.length) := by simp; omega
  have h2 : (List.range [some P, some P].length).any (fun k => decide (ptrA ([some P, some P].getD k none) = none)) = false := rfl
  have h3 : (List.range [some P, some P].length).any (twiceAt [some P, some P]) = true := by
    have e1 : twiceAt [some P, some P] 1 = true := by
      unfold twiceAt
      simp [List.range_succ]
    show (List.range 2).any _ = true
    simp [List.range_succ, e1]
  unfold dlC
  rw [if_neg h1, if_neg (by rw [h2]; simp), if_pos h3]
theorem dlC_nil {P : Pc} {t : List Rq} {H : List Int} (hH : H.length ≤ 64) : dlC [some P, none] t H = 1 := by
  have h1 : ¬ ([some P, none].length < 1 ∨ 8 < [some P, none].length ∨ 64 < H.length) := by simp; omega
  have h2 : (List.range [some P, none].length).any (fun k => decide (ptrA ([some P, none].getD k none) = none)) = true := rfl
  unfold dlC
  rw [if_neg h1, if_pos h2]
theorem dlC_one {P : Pc} {t : List Rq} : dlC [some P] t [] = 0 := by
  have h1 : ¬ ([some P].length < 1 ∨ 8 < [some P].length ∨ 64 < ([] : List Int).length) := by simp
  have h2 : (List.range [some P].length).any (fun k => decide (ptrA ([some P].getD k none) = none)) = false := rfl
  have h3 : (List.range [some P].length).any (twiceAt [some P]) = false := by
    have e0 : twiceAt [some P] 0 = false := by
      unfold twiceAt
      simp [List.range_succ]
    show (List.range 1).any _ = false
    simp [List.range_succ, e0]
  unfold dlC
  rw [if_neg h1, if_neg (by rw [h2]; simp), if_neg (by rw [h3]; simp)]
  rfl
theorem dlC_zero {t : List Rq} : dlC [] t [] = 11 := by
  unfold dlC
  rw [if_pos (.inl (by simp))]
/-- Right, by the routes alone -/
def hasR (Rs : List (List Rou2)) (i : Nat) (r : Int) : Bool := decide (0 ≤ whereP (Rs.getD i []) r)
def rightR (Rs : List (List Rou2)) (H : List Int) (k : Nat) : Bool := (List.range k).all fun r => hasR Rs (H.getD r 0).toNat r && !((List.range Rs.length).any fun j => ((j : Int) != H.getD r 0) && hasR Rs j r)
def rwsL (L : List Pc) : List (List Rou2) := L.map (·.rows)
theorem rwsL_at (L : List Pc) (i : Nat) : (rwsL L).getD i [] = (L.getD i pc0).rows := by
  unfold rwsL
  rw [List.getD_eq_getElem?_getD, List.getElem?_map, List.getD_eq_getElem?_getD]
  cases L[i]? with
  | none => rfl
  | some o => rfl
theorem rightB_R (L : List Pc) (H : List Int) (k : Nat) : rightB L H k = rightR (rwsL L) H k := by
  have h1 : ∀ i r, hasB (L.getD i pc0) r = hasR (rwsL L) i r := fun i r => by
    unfold hasB hasR
    rw [rwsL_at]
  have hl : (rwsL L).length = L.length := by unfold rwsL; rw [List.length_map]
  unfold rightB rightR othB
  simp only [h1, hl]
theorem list_two {α : Type} (L : List α) (d : α) (h : L.length = 2) : L = [L.getD 0 d, L.getD 1 d] := by
  match L, h with
  | [a, b], _ => rfl
/-- the chapter's requests and vehicles -/
def wkT : List Rq := [rqMk [10, 0, 20, 0, 0, 1000, 0, 1000, 1, 0]]
def wkF : List Ve := [rqMk [0, 0, 5, 0, 100]]
def wkG : List Ve := [rqMk [30, 0, 5, 0, 100]]
theorem wk_new : newC wkF wkT = 0 := by decide +kernel
theorem wk_newG : newC wkG wkT = 0 := by decide +kernel
theorem wk_put : pputP wkF (rows0 wkF) wkT 0 = ([prL 0], 40, 0) := by decide +kernel
theorem wk_putG : pputP wkG (rows0 wkG) wkT 0 = ([prL 0], 40, 0) := by decide +kernel
theorem wk_hold : holdKR [[prL 0], rows0 wkG] wkT [0] 1 = 0 := by decide +kernel
theorem wk_tot : totP wkF [prL 0] wkT + totP wkG (rows0 wkG) wkT = 40 := by decide +kernel
theorem wk_take : (ptakP [prL 0] 0).1 = [[]] := by decide +kernel
theorem wk_tot2 : totP wkF [[]] wkT + totP wkG [prL 0] wkT = 40 := by decide +kernel
theorem wk_right : rightR [[[]], [prL 0]] [1] 1 = true := by decide +kernel
end Go.Proofs.YtkaoflndbcfodaaGreat
