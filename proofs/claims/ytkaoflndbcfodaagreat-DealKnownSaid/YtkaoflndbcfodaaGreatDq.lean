/-
  Drafts (layer 7): routes.
-/
import Derived.Test.YtkaoflndbcfodaaGreatDr
import Derived.Test.YtkaoflndbcfodaaGreatWi
import Derived.Test.YtkaoflndbcfodaaGreatRou
namespace Go.Proofs.YtkaoflndbcfodaaGreat
open Go.RowKit

section
variable {P : Program} {ρ : Operand → Value} {o : Oper} {w : World} {x y : Operand} {p : Option Addr} {n c k : Nat}
theorem run_slHD {T : TypeId} {s : Nat} (hT : P.underlying T = some (.slice (P.elem T))) (hs : (sizeOf (P.elem T)).run P w = .ok s w) (ho : o.op = .slice T x none (some y) none) (hx : ρ x = .slice p n c) (hy : ρ y = .int .i64 k) (h1 : k ≤ c) :
    (execOp ρ o).run P w = .ok (.value (.slice p k c)) w := by
  have h := run_slice_h (P := P) w T p n c hT .i64 (k : Int) (by omega) (by omega)
  rw [← run_sliceAt_slice (P := P) w T (.slice p n c) _ _ _ hT, hs] at h
  simp only [Result.andThen_ok, Int.toNat_natCast, sliced] at h
  have e : (if c = 0 then p else p.map (·.add (0 * s))) = p := by
    split
    · rfl
    · cases p with
      | none => rfl
      | some a => rw [Nat.zero_mul]; rfl
  rw [e, Nat.sub_zero, Nat.sub_zero] at h
  unfold execOp
  simp only [ho, hx, hy, Option.map_some, Option.map_none, Sem.run_bind, h, Sem.run_pure, Result.andThen_ok]
end
section
variable {ρ : Operand → Value} {o : Oper} {w : World} {x y : Operand}
theorem run_minD {m a b : Int} (hm : m = if b < a then b else a) (ho : o.op = .call { callee := .builtin .min, args := #[x, y], argTypes := #[3, 3] }) (hx : ρ x = .int .i64 a) (hy : ρ y = .int .i64 b) :
    (execOp ρ o).run Tryz.prog w = .ok (.value (.int .i64 m)) w := by
  subst hm
  unfold execOp
  simp only [ho]
  go_simp
end
theorem rsl_st0 (w : World) : (Instr.buildSlice 82 0 #[]).run Tryz.prog w = .ok (.slice (some ⟨w.heap.size, 0, none⟩) 0 0) (w.alloc (.cells #[] 125)) := by kernel_rfl
theorem insS_len {l : List (Int × Int)} {k : Nat} (hk : k ≤ l.length) (s : Int × Int) : (insS l k s).length = l.length + 1 := by
  unfold insS
  simp
  omega
theorem insS_flat {l : List (Int × Int)} {k : Nat} (s : Int × Int) : ((insS l k s).map stV).flatten = ((l.take k).map stV).flatten ++ stV s ++ ((l.drop k).map stV).flatten := by
  unfold insS
  simp [List.flatten_append]
/-- so many stops behind the end a request is picked up -/
def drK (B : List Int) (k : Int) (n : Nat) : Nat := n - min n (nx B (k + 1) 3).toNat
def drJ (B : List Int) (k : Int) (n kk : Nat) : Nat := kk + 1 + (nx B (k + 2) ((n : Int) + 1 - (kk : Int))).toNat
def drStep (B : List Int) (k r : Int) (out : List (Int × Int)) : List (Int × Int) :=
  insS (insS out (drK B k out.length) (r, 0)) (drJ B k out.length (drK B k out.length)) (r, 1)
def drRt (B : List Int) (k r : Int) : Nat → List (Int × Int)
  | 0 => []
  | m + 1 => drStep B (k + 2 * (m : Int)) (r + (m : Int)) (drRt B k r m)
theorem drK_le (B : List Int) (k : Int) (n : Nat) : drK B k n ≤ n := Nat.sub_le _ _
theorem drJ_le (B : List Int) (k : Int) {n kk : Nat} (h : kk ≤ n) : drJ B k n kk ≤ n + 1 := by
  unfold drJ
  have := nx_bd B (k + 2) (m := (n : Int) + 1 - (kk : Int)) (by omega)
  omega
theorem drStep_len (B : List Int) (k r : Int) (out : List (Int × Int)) : (drStep B k r out).length = out.length + 2 := by
  unfold drStep
  have h1 := drK_le B k out.length
  have h2 := drJ_le B k h1
  have h3 := insS_len h1 (r, 0)
  rw [insS_len (by omega), h3]
theorem drRt_len (B : List Int) (k r : Int) : ∀ m, (drRt B k r m).length = 2 * m
  | 0 => rfl
  | m + 1 => by rw [drRt, drStep_len, drRt_len B k r m]; omega

end Go.Proofs.YtkaoflndbcfodaaGreat
