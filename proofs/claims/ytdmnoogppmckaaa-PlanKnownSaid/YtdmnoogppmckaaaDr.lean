/-
  Drafts (layer 7): the numbers that come, places.
-/
import Derived.Test.YtdmnoogppmckaaaTmT
import Derived.Test.YtdmnoogppmckaaaOpn
import Derived.Test.YtdmnoogppmckaaaWi
namespace Go.Proofs.Ytdmnoogppmckaaa
open Go.RowKit

def u8V (b : Int) : List Value := [.int .u8 b]
/-- the number that comes, at a place, below a bound -/
def nx (B : List Int) (k m : Int) : Int := if B = [] then k % m else (B.getD (k % (B.length : Int)).toNat 0 + k / (B.length : Int)) % m
theorem nx_bd (B : List Int) (k : Int) {m : Int} (hm : 0 < m) : 0 ≤ nx B k m ∧ nx B k m < m := by
  unfold nx
  split
  · exact ⟨Int.emod_nonneg _ (by omega), Int.emod_lt_of_pos _ hm⟩
  · exact ⟨Int.emod_nonneg _ (by omega), Int.emod_lt_of_pos _ hm⟩
def drC (p : Option Addr) (c : Nat) (B : List Int) (n wd k : Int) : Array Value := #[.slice p B.length c, .int .u8 n, .int .u8 wd, .int .i64 k]
theorem run_remD {ρ : Operand → Value} {o : Oper} {w : World} {x y : Operand} {n m : Int} {r : Nat} (ho : o.op = .binOp .rem 3 x y 3) (hx : ρ x = .int .i64 n) (hy : ρ y = .int .i64 m) (hn : 0 ≤ n) (hm : 0 < m) (hr : (r : Int) = n % m) (hb : m ≤ 9223372036854775807) :
    (execOp ρ o).run Try.prog w = .ok (.value (.int .i64 r)) w := by
  have h0 : ¬ m = 0 := by omega
  have h1 : n.tmod m = n % m := Int.tmod_eq_emod_of_nonneg hn
  have h2 : 0 ≤ n % m := Int.emod_nonneg _ h0
  have h3 : n % m < m := Int.emod_lt_of_pos _ hm
  have h4 : IntKind.i64.wrap (n % m) = n % m := IntWalk.i64_in _ (by omega)
  unfold execOp
  simp only [ho, hx, hy]
  go_simp
section
variable {ρ : Operand → Value} {o : Oper} {w : World} {x y : Operand}
theorem run_quo64 {n m q : Int} (ho : o.op = .binOp .quo 3 x y 3) (hx : ρ x = .int .i64 n) (hy : ρ y = .int .i64 m) (hn : 0 ≤ n) (hm : 0 < m) (hq : q = n / m) (hb : n ≤ 9223372036854775807) :
    (execOp ρ o).run Try.prog w = .ok (.value (.int .i64 q)) w := by
  subst hq
  have h1 : 0 ≤ n / m := Int.ediv_nonneg hn (by omega)
  have h2 : n / m ≤ n := Int.ediv_le_self _ hn
  have h3 : IntKind.i64.wrap (n / m) = n / m := IntWalk.i64_in _ (by omega)
  have hm0 : ¬ m = 0 := by omega
  have h4 : n.tdiv m = n / m := Int.tdiv_eq_ediv_of_nonneg hn
  unfold execOp
  simp only [ho, hx, hy]
  go_simp
end



def wideI (wd : Int) : Int := [400, 200, 90, 40].getD (wd % 4).toNat 0
theorem wideI_bd (wd : Int) : 0 ≤ wideI wd ∧ wideI wd ≤ 400 := by
  unfold wideI
  have h1 := Int.emod_nonneg wd (show (4 : Int) ≠ 0 by omega)
  have h2 := Int.emod_lt_of_pos wd (show (0 : Int) < 4 by omega)
  obtain ⟨r, hr⟩ := Int.eq_ofNat_of_zero_le h1
  rw [hr, Int.toNat_natCast]
  match r with
  | 0 => decide
  | 1 => decide
  | 2 => decide
  | 3 => decide
  | r + 4 => omega
/-- a request that is drafted -/
def drR (B : List Int) (wd k fr : Int) : Rq := rqMk [500 + nx B (k + 3) 20, 500 + nx B (k + 4) 20, 500 + nx B (k + 5) 20, 500 + nx B (k + 6) 20, fr + nx B (k + 1) 40, fr + nx B (k + 1) 40 + wideI wd,
  fr + nx B (k + 1) 40 + nx B (k + 2) 60, fr + nx B (k + 1) 40 + nx B (k + 2) 60 + wideI wd + 30, 1 + nx B (k + 7) 9, nx B (k + 8) 4]
theorem run_ixI8 {ρ : Operand → Value} {o : Oper} {w : World} {x y : Operand} {a : Addr} {n c k : Nat} {z : Int} (ho : o.op = .indexAddr 49 x y) (hx : ρ x = .slice (some a) n c) (hy : ρ y = .int .u8 z) (hz : (k : Int) = z) (hk : k < n) :
    (execOp ρ o).run Try.prog w = .ok (.value (.pointer (some (a.add k)))) w := by
  subst hz
  have h0 : (0 : Int) ≤ (k : Int) := by omega
  have h1 : (k : Int) < (n : Int) := by omega
  have h2 : ((k : Int)).toNat = k := by omega
  unfold execOp
  simp only [ho, hx, hy]
  go_simp
theorem rq_size (q : Rq) : (Try.prog.info? 37).map (·.size) = some (rqV q).toArray.size := by
  rw [show (rqV q).toArray.size = 10 from rfl]
  kernel_rfl
theorem rq_size0 : (Try.prog.info? 37).map (·.size) = some 10 := by kernel_rfl


/-- a vehicle that is drafted -/
def drV (B : List Int) (k : Int) : Ve := rqMk [500 + nx B (k + 1) 20, 500 + nx B (k + 2) 20, 8 + nx B (k + 3) 20, nx B (k + 4) 20, 300 + 8 * nx B (k + 5) 100]


/-- requests that are drafted -/
def drT (B : List Int) (wd k : Int) (m : Nat) : List Rq := (List.range m).map fun i : Nat => drR B wd (k + 8 * (i : Int)) (25 * (i : Int))
theorem drT_len (B : List Int) (wd k : Int) (m : Nat) : (drT B wd k m).length = m := by simp [drT]
theorem drT_succ (B : List Int) (wd k : Int) (m : Nat) : drT B wd k (m + 1) = drT B wd k m ++ [drR B wd (k + 8 * (m : Int)) (25 * (m : Int))] := by
  unfold drT
  rw [List.range_succ, List.map_append]
  rfl

end Go.Proofs.Ytdmnoogppmckaaa
