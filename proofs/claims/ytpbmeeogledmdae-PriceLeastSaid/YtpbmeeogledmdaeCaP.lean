/-
  Layer 12, plain: the ways of a request in a route, the cheapest one. Of no program's code.
-/
import Derived.Test.YtpbmeeogledmdaeDd
import Derived.Test.YtpbmeeogledmdaePl
namespace Go.Proofs.Ytpbmeeogledmdae
open Go.RowKit

theorem prsI_leC (N i : Nat) (h : i ≤ N) : (prsI N i).length ≤ i * N := by
  induction i with
  | zero => simp [prsI]
  | succ i ih =>
    rw [prsI_succ, List.length_append, rowP_len, Nat.succ_mul]
    have := ih (by omega)
    omega
theorem prs_leC (n : Int) : (prs n).length ≤ 306 := by
  unfold prs
  by_cases h : 16 < n
  · rw [if_pos h]; simp
  · rw [if_neg h]
    have h1 := prsI_leC (n + 1).toNat (n + 1).toNat (Nat.le_refl _)
    have h2 : (n + 1).toNat * (n + 1).toNat ≤ 17 * 17 := Nat.mul_le_mul (by omega) (by omega)
    omega
/-- a way: two places, and the rise -/
abbrev Wy := Int × Int × Int
def wyOf (x y cp st en : Int) (l : List (Int × Int)) (t : List Rq) (req : Int) (p : Int × Int) : List Wy :=
  if (riseP x y cp st en l t req p.1 p.2).2 = 0 then [(p.1, p.2, (riseP x y cp st en l t req p.1 p.2).1)] else []
def wysP (x y cp st en : Int) (l : List (Int × Int)) (t : List Rq) (req : Int) (ps : List (Int × Int)) : List Wy := ps.flatMap (wyOf x y cp st en l t req)
theorem wysP_snoc (x y cp st en : Int) (l : List (Int × Int)) (t : List Rq) (req : Int) (ps : List (Int × Int)) (p : Int × Int) :
    wysP x y cp st en l t req (ps ++ [p]) = wysP x y cp st en l t req ps ++ wyOf x y cp st en l t req p := by
  unfold wysP
  rw [List.flatMap_append]
  simp
theorem wyOf_len (x y cp st en : Int) (l : List (Int × Int)) (t : List Rq) (req : Int) (p : Int × Int) : (wyOf x y cp st en l t req p).length ≤ 1 := by
  unfold wyOf
  split <;> simp
theorem wysP_len (x y cp st en : Int) (l : List (Int × Int)) (t : List Rq) (req : Int) : ∀ ps : List (Int × Int), (wysP x y cp st en l t req ps).length ≤ ps.length
  | [] => by simp [wysP]
  | p :: r => by
    have h1 := wysP_len x y cp st en l t req r
    have h2 := wyOf_len x y cp st en l t req p
    unfold wysP at h1 ⊢
    rw [List.flatMap_cons, List.length_append, List.length_cons]
    omega
/-- all feasible ways, or why there are none -/
def allP (x y cp st en : Int) (l : List (Int × Int)) (t : List Rq) (req : Int) : List Wy × Int :=
  if (riseP x y cp st en l t req 0 0).2 = 0 ∨ (riseP x y cp st en l t req 0 0).2 = 10 ∨ (riseP x y cp st en l t req 0 0).2 = 9 then (wysP x y cp st en l t req (prs l.length), 0) else ([], (riseP x y cp st en l t req 0 0).2)
/-- the first one with the least rise -/
def lstW : Wy → List Wy → Wy
  | b, [] => b
  | b, x :: r => lstW (if x.2.2 < b.2.2 then x else b) r
theorem lstW_snoc (b : Wy) : ∀ (r : List Wy) (x : Wy), lstW b (r ++ [x]) = if x.2.2 < (lstW b r).2.2 then x else lstW b r
  | [], x => rfl
  | y :: r, x => by
    show lstW _ (r ++ [x]) = _
    rw [lstW_snoc]
    rfl
theorem lstW_mem : ∀ (r : List Wy) (b : Wy), lstW b r = b ∨ lstW b r ∈ r
  | [], b => .inl rfl
  | y :: r, b => by
    show lstW (if y.2.2 < b.2.2 then y else b) r = b ∨ _
    rcases lstW_mem r (if y.2.2 < b.2.2 then y else b) with h | h
    · by_cases hb : y.2.2 < b.2.2
      · rw [if_pos hb] at h
        right
        show lstW (if y.2.2 < b.2.2 then y else b) r ∈ _
        rw [if_pos hb, h]
        exact List.mem_cons_self
      · rw [if_neg hb] at h
        left
        rw [if_neg hb]
        exact h
    · right
      exact List.mem_cons_of_mem _ h
def bestP (x y cp st en : Int) (l : List (Int × Int)) (t : List Rq) (req : Int) : Wy × Int :=
  if (allP x y cp st en l t req).2 ≠ 0 then ((0, 0, 0), (allP x y cp st en l t req).2) else match (allP x y cp st en l t req).1 with | [] => ((0, 0, 0), 12) | b :: r => (lstW b r, 0)
/-- the route with the request where that is cheapest; by how much its end is later; or why it can't be put in -/
def cputP (x y cp st en : Int) (l : List (Int × Int)) (t : List Rq) (req : Int) : List (Int × Int) × Int × Int :=
  if (bestP x y cp st en l t req).2 ≠ 0 then ([], 0, (bestP x y cp st en l t req).2) else
    ((withP l req (bestP x y cp st en l t req).1.1 (bestP x y cp st en l t req).1.2.1).getD [], (bestP x y cp st en l t req).1.2.2, 0)
end Go.Proofs.Ytpbmeeogledmdae
