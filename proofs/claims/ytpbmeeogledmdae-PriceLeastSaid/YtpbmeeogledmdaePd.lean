/-
  Layer 13, the program's: Take.
-/
import Derived.Test.YtpbmeeogledmdaePc
namespace Go.Proofs.Ytpbmeeogledmdae
open Go.RowKit

theorem ClR.callN {l : Rou2} {p : Addr} {w W W' : World} {q : Option Addr} {d : Nat} (hm : Mod (fun _ => False) w W) (hb : Below W.heap.size W W') (hE : Els W' q 2 (l.map stV)) (hc : l.length ≤ d ∧ d ≤ 9223372036854775807) (hf : l ≠ [] → ∀ a, q = some a → W.heap.size ≤ a.block) : ClR l p w (q, d) true false W' :=
  ⟨W', hm.after hb, fun _ => ⟨hE, hc, fun h0 a ha => ⟨Nat.le_trans hm.size (hf h0 a ha), els_lt hE (fun e => h0 (List.map_eq_nil_iff.1 e)) ha⟩⟩, rfl⟩
section
variable {ρ : Operand → Value} {o : Oper} {w : World} {x y z u : Operand}
theorem exec_delP {w' : World} {t k : TypeId} {b : Nat} {i : Int} (ho : o.op = .call { callee := .builtin .delete, args := #[x, y], argTypes := #[t, k] }) (hx : ρ x = .map (some b)) (hy : ρ y = .int .i64 i)
    (h : (Builtin.delete_ #[t, k] o.type #[.map (some b), .int .i64 i]).run Try.prog w = .ok (.tuple #[]) w') : (execOp ρ o).run Try.prog w = .ok (.value (.tuple #[])) w' := by
  unfold execOp
  simp only [ho, resolve, invoke, builtin, Sem.run_bind, Sem.run_pure, Result.andThen_ok, List.map_toArray, List.map_cons, List.map_nil, hx, hy, h]
theorem run_cellTr {p : Addr} {q : Option Addr} {n c : Nat} (h : w.cell? p = some (.slice q n c)) : (loadVar 73 p).run Try.prog w = .ok (.slice q n c) w := by go_simp
end
end Go.Proofs.Ytpbmeeogledmdae
