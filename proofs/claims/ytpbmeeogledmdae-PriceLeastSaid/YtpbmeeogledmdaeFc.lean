/-
  Layer 9: the program's feas.Check.
-/
import Derived.Test.YtpbmeeogledmdaeFs
namespace Go.Proofs.Ytpbmeeogledmdae
open Go.RowKit

/-- the route gone along: some, if every stop may stand, there is room, and none is late; where, when, how much is on board -/
def fsRun (cp : Int) (t : List Rq) : List (Int × Int) → (Int → Option Int) → Int → Int → Int → Int → Option (Int × Int × Int × Int)
  | [], _, ax, ay, now, bd => some (ax, ay, now, bd)
  | s :: r, m, ax, ay, now, bd =>
    if stB t.length m s = true ∧ ldE cp s.2 bd (t.getD s.1.toNat rqZ0 8) = 0 ∧ ¬ gB s.2 (t.getD s.1.toNat rqZ0) ax ay now > gL s.2 (t.getD s.1.toNat rqZ0) then
      fsRun cp t r (stM t.length m s) (gX s.2 (t.getD s.1.toNat rqZ0)) (gY s.2 (t.getD s.1.toNat rqZ0)) (gB s.2 (t.getD s.1.toNat rqZ0) ax ay now + t.getD s.1.toNat rqZ0 9) (ldB s.2 bd (t.getD s.1.toNat rqZ0 8))
    else none
def fsEnd (x y en : Int) : Option (Int × Int × Int × Int) → Bool
  | none => false
  | some (ax, ay, now, bd) => decide (¬ bd > 0 ∧ ¬ now + dsP ax ay x y > en)
/-- is the route right? -/
def fsB (x y cp st en : Int) (l : List (Int × Int)) (t : List Rq) : Bool :=
  decide (vehCode x y cp st en = 0) && (t.all fun q => rqE q == 0) && decide (l.length ≤ 16) && fsEnd x y en (fsRun cp t l (fun _ => none) x y st 0)

def FsPost (w : World) (B : Bool) (e : Ending) (w' : World) : Prop :=
  (B = true → e = .returned .nilIface) ∧ (B = false → ∃ b, e = .returned (.iface 136 (.pointer (some ⟨b, 0, none⟩)))) ∧ Below w.heap.size w w'
theorem FsPost.no {w w' : World} {b : Nat} (hb : Below w.heap.size w w') : FsPost w false (.returned (.iface 136 (.pointer (some ⟨b, 0, none⟩)))) w' := ⟨(fun h => by cases h), (fun _ => ⟨b, rfl⟩), hb⟩
theorem FsPost.yes {w w' : World} (hb : Below w.heap.size w w') : FsPost w true (.returned .nilIface) w' := ⟨(fun _ => rfl), (fun h => by cases h), hb⟩



theorem rq_lt {w : World} {p : Option Addr} {t : List Rq} {a : Addr} (h : Els w p 10 (t.map rqV)) (ha : p = some a) (hn : 0 < t.length) : a.block < w.heap.size := by
  have h1 := h.one ha (k := 0) (by simpa using hn) 0 (.int .i64 (t[0] 0)) (by simp [rqV])
  have h2 := World.block_lt_of_cell? w _ h1
  rwa [addr_block, addr_block] at h2
theorem stB_true {T : Nat} {m : Int → Option Int} {s : Int × Int} (h : stB T m s = true) : 0 ≤ s.1 ∧ s.1 < T ∧ s.2 < 2 ∧ (m s.1).getD 0 = s.2 := by
  have := of_decide_eq_true h
  omega

/-- what is known of a request that may be -/
theorem rqE_all {q : Rq} (h : rqE q = 0) : (0 ≤ q 4 ∧ q 4 ≤ q 5 ∧ q 5 ≤ 1048576) ∧ (0 ≤ q 6 ∧ q 6 ≤ q 7 ∧ q 7 ≤ 1048576) ∧ (1 ≤ q 8 ∧ q 8 ≤ 1000) ∧ (0 ≤ q 9 ∧ q 9 ≤ 1000) := by
  unfold rqE rqCode firstC at h
  cases h1 : (plB (q 0) (q 1) && plB (q 2) (q 3)) <;> rw [h1] at h
  · simp at h
  cases h2 : (wiB (q 4) (q 5) && wiB (q 6) (q 7)) <;> rw [h2] at h
  · simp at h
  cases h3 : (decide (1 ≤ q 8 ∧ q 8 ≤ 1000) && decide (0 ≤ q 9 ∧ q 9 ≤ 1000)) <;> rw [h3] at h
  · simp at h
  rw [Bool.and_eq_true] at h2 h3
  exact ⟨of_decide_eq_true h2.1, of_decide_eq_true h2.2, of_decide_eq_true h3.1, of_decide_eq_true h3.2⟩


end Go.Proofs.Ytpbmeeogledmdae
