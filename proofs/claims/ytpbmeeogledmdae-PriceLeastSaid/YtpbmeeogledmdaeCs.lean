/-
  Layer 11, the document's: Case.
-/
import Derived.Test.YtpbmeeogledmdaeDp
import Derived.Test.YtpbmeeogledmdaeAg
namespace Go.Proofs.Ytpbmeeogledmdae
open Go.RowKit

theorem Els.modb {w w' : World} {p : Option Addr} {n : Nat} {R : List (List Value)} (h : Els w p n R) {S : Nat → Prop} (hm : Mod S w w') (hs : ∀ a, p = some a → ¬ S a.block) : Els w' p n R :=
  ⟨h.nil, h.len, h.big, fun a ha k x j v hk hj => hm.cell_of (by rw [add_block]; exact hs a ha) (h.cells a ha k x j v hk hj)⟩
theorem res_cttt {P : Program} {fn : Func} {p q r s : Tmp} {ty : TypeId} (h : fn.results = #[.cell p ty, .tmp q, .tmp r, .tmp s]) {tmps : Array Value} {w : World} {g : Nat} {v : Value}
    (hp : tmps.getD p undef = .pointer (some ⟨g, 0, none⟩)) (hrun : (loadVar ty ⟨g, 0, none⟩).run P w = .ok v w) :
    (results fn tmps).run P w = .ok (.tuple #[v, tmps.getD q undef, tmps.getD r undef, tmps.getD s undef]) w := by
  have hp' : tmps[p]?.getD undef = .pointer (some ⟨g, 0, none⟩) := by simpa using hp
  simp [results, h, hp', asAddr, hrun]
section
variable {ρ : Operand → Value} {o : Oper} {w : World} {x y : Operand} {p : Option Addr} {n c : Nat}
theorem run_lenRq (ho : o.op = .call { callee := .builtin .len, args := #[x], argTypes := #[30] }) (hx : ρ x = .slice p n c) : (execOp ρ o).run Try.prog w = .ok (.value (.int .i64 n)) w := by
  unfold execOp
  simp only [ho]
  go_simp
theorem run_sub1 {m k : Int} (hm : m = k - 1) (hb : -9223372036854775808 ≤ m ∧ m ≤ 9223372036854775807) (ho : o.op = .binOp .sub 3 x (.const (.int .i64 1)) 3) (hx : ρ x = .int .i64 k) (hc : ρ (.const (.int .i64 1)) = .int .i64 1) : (execOp ρ o).run Try.prog w = .ok (.value (.int .i64 m)) w := by
  subst hm
  have h := IntWalk.i64_in (k - 1) hb
  unfold execOp
  simp only [ho, hx, hc]
  go_simp
end
structure CsV (V Z : Array Value) (w : World) (bR : Nat) (M : List (Int × Int)) (x : Option Addr × Nat) (c s : Bool) (W : World) : Prop where
  m : Mod (fun k => k = bR) w W
  b : Blk W bR (bif s then V else Z) 47
  r : c = true → (M.length ≤ x.2 ∧ x.2 ≤ 9223372036854775807) ∧ Els W x.1 2 (M.map stV) ∧ (∀ a, x.1 = some a → a.block ≠ bR)
/-- what a draft's case is: its last request is not in the route -/
def dcL (B : List Int) (n wd : Int) : List (Int × Int) := woP (dpL B n) (((dpT B n wd).length : Int) - 1)
def DcPost (w : World) (B : List Int) (n wd : Int) (e : Ending) (w' : World) : Prop :=
  (∃ q d q' d', e = .returned (.tuple #[.agg (veR (dpV B n)).toArray, .slice q (dcL B n wd).length d, .slice q' (dpT B n wd).length d', .int .i64 (((dpT B n wd).length : Int) - 1)]) ∧ ((dcL B n wd).length ≤ d ∧ d ≤ 9223372036854775807) ∧ ((dpT B n wd).length ≤ d' ∧ d' ≤ 9223372036854775807) ∧
    Els w' q 2 ((dcL B n wd).map stV) ∧ Els w' q' 10 ((dpT B n wd).map rqV)) ∧ Below w.heap.size w w'
theorem dpT_len (B : List Int) (n wd : Int) : (dpT B n wd).length = dpN n := drT_len _ _ _ _
theorem dpN_le (n : Int) : dpN n ≤ 6 := by
  unfold dpN
  have := Int.emod_lt_of_pos n (show (0 : Int) < 7 by omega)
  omega
theorem dpL_len (B : List Int) (n : Int) : (dpL B n).length = 2 * dpN n := drRt_len _ _ _ _

end Go.Proofs.Ytpbmeeogledmdae
