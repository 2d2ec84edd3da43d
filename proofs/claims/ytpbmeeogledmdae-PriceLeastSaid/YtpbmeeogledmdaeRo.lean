/-
  Layer 8, the document's: insert, Open.
  Layer 8, the document's: Told.
-/
import Derived.Test.YtpbmeeogledmdaeWi
namespace Go.Proofs.Ytpbmeeogledmdae
open Go.RowKit

/-- a number more, in its place -/
def insD (L : List Int) (n : Int) : List Int := L.takeWhile (fun x => decide (x < n)) ++ n :: L.dropWhile (fun x => decide (x < n))
theorem insD_len (L : List Int) (n : Int) : (insD L n).length = L.length + 1 := by
  have := congrArg List.length (List.takeWhile_append_dropWhile (p := fun x => decide (x < n)) (l := L))
  unfold insD
  rw [List.length_append] at this ⊢
  simp only [List.length_cons]
  omega
theorem insD_at : ∀ (L : List Int) (n : Int) (k : Nat), k ≤ L.length → (∀ x ∈ L.take k, x < n) → (∀ x, L[k]? = some x → ¬ x < n) → insD L n = L.take k ++ n :: L.drop k
  | [], n, k, hk, h1, h2 => by
    obtain rfl : k = 0 := by simpa using hk
    simp [insD]
  | y :: L, n, 0, hk, h1, h2 => by
    have := h2 y rfl
    simp [insD, this]
  | y :: L, n, k + 1, hk, h1, h2 => by
    have h0 := h1 y (by simp)
    have := insD_at L n k (by simpa using hk) (fun x hx => h1 x (by simp [hx])) (fun x hx => h2 x (by simpa using hx))
    unfold insD at this ⊢
    simp [h0, this]
section
variable {ρ : Operand → Value} {o : Oper} {w : World} {x y z : Operand} {p : Option Addr} {n c i j : Nat}
theorem run_sllI (ho : o.op = .slice 148 x (some y) none none) (hx : ρ x = .slice p n c) (hy : ρ y = .int .i64 i) (h1 : i ≤ n) :
    (execOp ρ o).run Try.prog w = .ok (.value (.slice (if c = i then p else p.map (·.add (i * 1))) (n - i) (c - i))) w := by
  have h := run_slice_l (P := Try.prog) w 148 p n c (by kernel_rfl) .i64 (i : Int) (by omega) (by omega)
  have hs : (sizeOf (Try.prog.elem 148)).run Try.prog w = .ok 1 w := by kernel_rfl
  rw [← run_sliceAt_slice (P := Try.prog) w 148 (.slice p n c) _ _ _ (by kernel_rfl), hs] at h
  simp only [Result.andThen_ok, Int.toNat_natCast, sliced] at h
  unfold execOp
  simp only [ho, hx, hy, Option.map_some, Option.map_none, Sem.run_bind, h, Sem.run_pure, Result.andThen_ok]
theorem run_sllI' {q : Option Addr} (hq : q = if c = i then p else p.map (·.add (i * 1))) (ho : o.op = .slice 148 x (some y) none none) (hx : ρ x = .slice p n c) (hy : ρ y = .int .i64 i) (h1 : i ≤ n) :
    (execOp ρ o).run Try.prog w = .ok (.value (.slice q (n - i) (c - i))) w := by
  subst hq
  exact run_sllI ho hx hy h1
end
theorem in_all (t : List Int) : ∀ z ∈ t.map inV, ∀ u ∈ z, u.oneCell' = true := by
  intro z hz
  obtain ⟨q, _, rfl⟩ := List.mem_map.1 hz
  exact in_one q
theorem in_at {w : World} {a : Addr} {L : List Int} {k : Nat} (h : Els w (some a) 1 (L.map inV)) (hk : k < L.length) : (loadVar 3 (a.add k)).run Try.prog w = .ok (.int .i64 L[k]) w := by
  have := h.cells a rfl k (inV L[k]) 0 (.int .i64 L[k]) (by rw [List.getElem?_map, List.getElem?_eq_getElem hk]; rfl) rfl
  rw [Nat.mul_one, Nat.add_zero] at this
  exact run_i64 this

/-- what became of a request among so many stops: picked, dropped, and is this the first of its stops? -/
def opF (l : List (Int × Int)) (r : Int) (i : Nat) : Nat → Int × Int × Bool
  | 0 => (0, 0, true)
  | j + 1 =>
    let s := l.getD j (0, 0)
    let q := opF l r i j
    if s.1 ≠ r then q
    else (if s.2 = 0 then 1 else q.1, if s.2 = 1 then 1 else if s.2 = 0 then 0 else q.2.1, q.2.2 && decide (i ≤ j))
def opT (l : List (Int × Int)) (r : Int) (i k : Nat) : Bool := (opF l r i k).2.2 && ((opF l r i k).1 == 1 && (opF l r i k).2.1 == 0)
def opL (l : List (Int × Int)) (k : Nat) : Nat → List Int
  | 0 => []
  | i + 1 => if opT l (l.getD i (0, 0)).1 i k then insD (opL l k i) (l.getD i (0, 0)).1 else opL l k i
/-- what is open behind so many stops -/
def openD (l : List (Int × Int)) (k : Nat) : List Int := opL l k k
theorem els_nil (w : World) (n : Nat) : Els w none n [] := ⟨fun _ => rfl, fun _ h => (by cases h), by simp, fun _ h => (by cases h)⟩
theorem opL_len (l : List (Int × Int)) (k : Nat) : ∀ i, (opL l k i).length ≤ i
  | 0 => Nat.le_refl _
  | i + 1 => by
    have := opL_len l k i
    rw [opL]
    split
    · rw [insD_len]; omega
    · omega
theorem opF_01 (l : List (Int × Int)) (r : Int) (i : Nat) : ∀ j, ((opF l r i j).1 = 0 ∨ (opF l r i j).1 = 1) ∧ ((opF l r i j).2.1 = 0 ∨ (opF l r i j).2.1 = 1)
  | 0 => ⟨.inl rfl, .inl rfl⟩
  | j + 1 => by
    have := opF_01 l r i j
    simp only [opF]
    split
    · exact this
    · refine ⟨?_, ?_⟩
      · dsimp only; split
        · exact .inr rfl
        · exact this.1
      · dsimp only; split
        · exact .inr rfl
        · split
          · exact .inl rfl
          · exact this.2

end Go.Proofs.Ytpbmeeogledmdae
namespace Go.Proofs.Ytpbmeeogledmdae
open Go.RowKit

end Go.Proofs.Ytpbmeeogledmdae
