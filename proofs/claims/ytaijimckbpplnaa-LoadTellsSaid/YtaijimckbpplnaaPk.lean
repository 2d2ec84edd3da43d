/-
  Layer 8: Peak, the program's and the document's; 'ints', 'table'; layer 6, the document's: Made.
-/
import Derived.Test.YtaijimckbpplnaaPf
import Derived.Test.YtaijimckbpplnaaPo
namespace Go.Proofs.Ytaijimckbpplnaa
open Go.RowKit

/-- the most of a row; 0, if there is none -/
def mostL (L : List Int) : Int := L.foldl max 0
theorem mostL_succ (L : List Int) {k : Nat} (hk : k < L.length) : mostL (L.take (k + 1)) = max (mostL (L.take k)) L[k] := by
  unfold mostL
  rw [List.take_succ_eq_append_getElem hk, List.foldl_append]
  rfl
def pkP (l : List (Int × Int)) (t : List Rq) : Int × Int := (mostL (prP l t).1, (prP l t).2)
theorem run_maxI {ρ : Operand → Value} {o : Oper} {w : World} {x y : Operand} {m a b : Int} (hm : m = max a b) (ho : o.op = .call { callee := .builtin .max, args := #[x, y], argTypes := #[3, 3] }) (hx : ρ x = .int .i64 a) (hy : ρ y = .int .i64 b) :
    (execOp ρ o).run Try.prog w = .ok (.value (.int .i64 m)) w := by
  subst hm
  unfold execOp
  simp only [ho]
  go_simp
theorem in_at8 {w : World} {a : Addr} {L : List Int} {k : Nat} (h : Els w (some a) 1 (L.map inV)) (hk : k < L.length) : (loadVar 3 (a.add k)).run Try.prog w = .ok (.int .i64 L[k]) w := in_at h hk

set_option maxHeartbeats 1000000 in
set_option maxRecDepth 100000 in
theorem peak_calls (p p' : Option Addr) (c c' : Nat) (l : List (Int × Int)) (t : List Rq) (w : World) (hL : Els w p 2 (l.map stV)) (hT : Els w p' 10 (t.map rqV)) :
    Calls Try.prog 10 #[.slice p l.length c, .slice p' t.length c'] w fun e w' => e = .returned (.tuple #[.int .i64 (pkP l t).1, .int .i64 (pkP l t).2]) ∧ Below w.heap.size w w' := by
  have hpr := Lib.hid (profile_calls p p' c c' l t w hL hT)
  unfold pkP
  dsimp only
  unfold PrPost at hpr
  clear hL hT
  generalize (prP l t).2 = ec at *
  generalize (prP l t).1 = L at *
  have hmo := Lib.hid (fun k (hk : k < L.length) => mostL_succ L hk)
  have hm0 : mostL (L.take 0) = 0 := rfl
  have hmn : Hid (mostL (L.take L.length) = mostL L) := Lib.hid (by rw [List.take_length])
  generalize mostL L = X at *
  go_enter Try.func10, Try.ntmps10
  go_wp2_with fail
  refine hpr.out.mono ?_
  rintro e w1 ⟨⟨q, d, rfl, hd, hE⟩, hb⟩
  have hbig : L.length ≤ 140737488351232 := by simpa using hE.big
  replace hE := Lib.hid hE
  replace hb := Lib.hid hb
  replace hm0 := Lib.hid hm0
  clear hpr
  go_wp2_with fail
  go_loopw [4, 17] (fun s4 s17 wx => ∃ k : Nat, k ≤ L.length ∧ s17 = .int .i64 k ∧ s4 = .int .i64 (mostL (L.take k)) ∧ wx = w1) (fun _ s17 _ => L.length - (intOf s17).toNat)
  case atStart => exact ⟨0, Nat.zero_le _, rfl, by rw [hm0.out], rfl⟩
  case round =>
    obtain ⟨k, hk, rfl, rfl, rfl⟩ := hrel
    by_cases hlt : k < L.length
    · have hltI : (k : Int) < (L.length : Int) := by omega
      have hk0 : (0 : Int) ≤ (k : Int) := by omega
      have s1 : IntKind.i64.wrap ((k : Int) + 1) = (k : Int) + 1 := IntWalk.i64_in _ (by omega)
      obtain ⟨a, ha⟩ := hE.out.some_of (k := k) (by simpa using hlt)
      subst ha
      have hc := Lib.hid (in_at hE.out hlt)
      have hs := Lib.hid (hmo.out k hlt)
      obtain ⟨m1, hm1⟩ : ∃ m1, mostL (L.take (k + 1)) = m1 := ⟨_, rfl⟩
      rw [hm1] at hs
      replace hm1 := Lib.hid hm1
      generalize L[k] = z at *
      generalize mostL (L.take k) = m0 at *
      go_wp2_with (first | (refine wpList_load_v rfl 3 _ rfl (a.add k) rfl _ hc.out ?_) | (refine wpList_v rfl (.int .i64 m1) (run_maxI hs.out rfl rfl rfl) ?_))
      go_roundw
      case rel => exact ⟨k + 1, by omega, by simp, by rw [hm1.out], trivial⟩
      case measure => simp [intOf]; omega
    · obtain rfl : k = L.length := by omega
      rw [hmn.out]
      go_wp2
      go_ret2
      exact ⟨rfl, hb.out⟩

set_option maxHeartbeats 1000000 in
set_option maxRecDepth 100000 in
theorem rpeak_calls (p p' : Option Addr) (c c' : Nat) (l : List (Int × Int)) (t : List Rq) (w : World) (hL : Els w p 2 (l.map stV)) (hc : l.length ≤ c ∧ c ≤ 9223372036854775807) (hT : Els w p' 10 (t.map rqV)) :
    Calls Try.prog 11 #[.slice p l.length c, .slice p' t.length c'] w fun e w' => e = .returned (.tuple #[.int .i64 (pkP l t).1, .int .i64 (pkP l t).2]) ∧ Below w.heap.size w w' := by
  have hpr := Lib.hid (rprofile_calls p p' c c' l t w hL hc hT)
  unfold pkP
  dsimp only
  unfold PrPost at hpr
  clear hL hT hc
  generalize (prP l t).2 = ec at *
  generalize (prP l t).1 = L at *
  have hmo := Lib.hid (fun k (hk : k < L.length) => mostL_succ L hk)
  have hm0 : mostL (L.take 0) = 0 := rfl
  have hmn : Hid (mostL (L.take L.length) = mostL L) := Lib.hid (by rw [List.take_length])
  generalize mostL L = X at *
  go_enter Try.func11, Try.ntmps11
  go_wp2_with fail
  refine hpr.out.mono ?_
  rintro e w1 ⟨⟨q, d, rfl, hd, hE⟩, hb⟩
  have hbig : L.length ≤ 140737488351232 := by simpa using hE.big
  replace hE := Lib.hid hE
  replace hb := Lib.hid hb
  replace hm0 := Lib.hid hm0
  clear hpr
  go_wp2_with fail
  go_loopw [8, 9] (fun s4 s17 wx => ∃ k : Nat, k ≤ L.length ∧ s17 = .int .i64 k ∧ s4 = .int .i64 (mostL (L.take k)) ∧ wx = w1) (fun _ s17 _ => L.length - (intOf s17).toNat)
  case atStart => exact ⟨0, Nat.zero_le _, rfl, by rw [hm0.out], rfl⟩
  case round =>
    obtain ⟨k, hk, rfl, rfl, rfl⟩ := hrel
    by_cases hlt : k < L.length
    · have hltI : (k : Int) < (L.length : Int) := by omega
      have hk0 : (0 : Int) ≤ (k : Int) := by omega
      have s1 : IntKind.i64.wrap ((k : Int) + 1) = (k : Int) + 1 := IntWalk.i64_in _ (by omega)
      obtain ⟨a, ha⟩ := hE.out.some_of (k := k) (by simpa using hlt)
      subst ha
      have hc := Lib.hid (in_at hE.out hlt)
      have hs := Lib.hid (hmo.out k hlt)
      obtain ⟨m1, hm1⟩ : ∃ m1, mostL (L.take (k + 1)) = m1 := ⟨_, rfl⟩
      rw [hm1] at hs
      replace hm1 := Lib.hid hm1
      generalize L[k] = z at *
      generalize mostL (L.take k) = m0 at *
      go_wp2_with (first | (refine wpList_load_v rfl 3 _ rfl (a.add k) rfl _ hc.out ?_) | (refine wpList_v rfl (.int .i64 m1) (run_maxI hs.out rfl rfl rfl) ?_))
      go_roundw
      case rel => exact ⟨k + 1, by omega, by simp, by rw [hm1.out], trivial⟩
      case measure => simp [intOf]; omega
    · obtain rfl : k = L.length := by omega
      rw [hmn.out]
      go_wp2
      go_ret2
      exact ⟨rfl, hb.out⟩

set_option maxHeartbeats 1000000 in
set_option maxRecDepth 100000 in
/-- are both rows alike? -/
theorem ints_calls (p q : Option Addr) (c d : Nat) (A B : List Int) (w : World) (hA : Els w p 1 (A.map inV)) (hB : Els w q 1 (B.map inV)) :
    Calls Try.prog 12 #[.slice p A.length c, .slice q B.length d] w fun e w' => e = .returned (.bool (decide (A = B))) ∧ Below w.heap.size w w' := by
  have hbig : A.length ≤ 140737488351232 := by simpa using hA.big
  have hbig2 : B.length ≤ 140737488351232 := by simpa using hB.big
  replace hA := Lib.hid hA
  replace hB := Lib.hid hB
  by_cases hl : A.length = B.length
  · have hX : Hid (decide (A = B) = true ↔ ∀ k (h1 : k < A.length) (h2 : k < B.length), A[k] = B[k]) := Lib.hid ⟨fun h k h1 h2 => by have e := of_decide_eq_true h; subst e; rfl, fun h => decide_eq_true (List.ext_getElem hl (fun k h1 h2 => h k h1 h2))⟩
    generalize decide (A = B) = X at *
    go_enter Try.func12, Try.ntmps12
    rw [← hl]
    replace hl := Lib.hid hl
    go_wp2_with fail
    go_loopw [5] (fun s5 wx => ∃ k : Nat, k ≤ A.length ∧ s5 = .int .i64 k ∧ Hid (∀ j (h1 : j < A.length) (h2 : j < B.length), j < k → A[j] = B[j]) ∧ ∃ m, wx = w.drewN m) (fun s5 _ => A.length - (intOf s5).toNat)
    case atStart => exact ⟨0, Nat.zero_le _, rfl, Lib.hid (fun j _ _ h => by omega), 0, rfl⟩
    case round =>
      obtain ⟨k, hk, rfl, hR, m, rfl⟩ := hrel
      by_cases hlt : k < A.length
      · have hltI : (k : Int) < (A.length : Int) := by omega
        have hk0 : (0 : Int) ≤ (k : Int) := by omega
        have s1 : IntKind.i64.wrap ((k : Int) + 1) = (k : Int) + 1 := IntWalk.i64_in _ (by omega)
        have hlb : k < B.length := by rw [← hl.out]; exact hlt
        obtain ⟨a, ha⟩ := hA.out.some_of (k := k) (by simpa using hlt)
        subst ha
        obtain ⟨b, hb⟩ := hB.out.some_of (k := k) (by simpa using hlb)
        subst hb
        have ca : ∀ n, (w.drewN n).cell? (a.add k) = some (.int .i64 A[k]) := fun n => by
          have := hA.out.cells a rfl k (inV A[k]) 0 (.int .i64 A[k]) (by rw [List.getElem?_map, List.getElem?_eq_getElem hlt]; rfl) rfl
          rw [Nat.mul_one, Nat.add_zero] at this
          exact this
        have cb : ∀ n, (w.drewN n).cell? (b.add k) = some (.int .i64 B[k]) := fun n => by
          have := hB.out.cells b rfl k (inV B[k]) 0 (.int .i64 B[k]) (by rw [List.getElem?_map, List.getElem?_eq_getElem hlb]; rfl) rfl
          rw [Nat.mul_one, Nat.add_zero] at this
          exact this
        have hno : Hid (A[k] ≠ B[k] → X = false) := Lib.hid (fun h => by
          cases X with
          | false => rfl
          | true => exact absurd (hX.out.1 rfl k hlt hlb) h)
        have hR' : Hid (A[k] = B[k] → ∀ j (h1 : j < A.length) (h2 : j < B.length), j < k + 1 → A[j] = B[j]) := Lib.hid (fun h j h1 h2 hj => by
          by_cases e : j = k
          · subst e; exact h
          · exact hR.out j h1 h2 (by omega))
        replace ca := Lib.hid ca
        replace cb := Lib.hid cb
        clear hR
        generalize A[k] = x at *
        generalize B[k] = y at *
        obtain ⟨g, hg⟩ : ∃ g, (x != y) = g := ⟨_, rfl⟩
        replace hg := Lib.hid hg
        go_upto_region 6 with fail
        refine wp_region_quiet_lit (by kernel_rfl) (by kernel_rfl) ?_
        iterate 3 (go_big_quiet_step (fail))
        refine wpQuiet_v rfl (.int .i64 x) (by rintro _ ⟨j, rfl⟩; rw [World.drewN_drewN]; exact run_load_v rfl rfl (run_i64 (ca.out _))) ?_
        simp only [Act.put, List.setIfInBounds_toArray, List.set_cons_succ, List.set_cons_zero]
        iterate 3 (go_big_quiet_step (fail))
        refine wpQuiet_v rfl (.int .i64 y) (by rintro _ ⟨j, rfl⟩; rw [World.drewN_drewN]; exact run_load_v rfl rfl (run_i64 (cb.out _))) ?_
        simp only [Act.put, List.setIfInBounds_toArray, List.set_cons_succ, List.set_cons_zero]
        go_big_quiet_step (fail)
        refine wpQuiet_nil ?_
        rintro _ ⟨j, rfl⟩
        rw [World.drewN_drewN, hg.out]
        cases g with
        | true =>
          obtain rfl : X = false := hno.out (by simpa using hg.out)
          clear hno hR' hX ca cb
          go_wp2
          go_ret
          exact ⟨rfl, below_drewN (Below.refl _ _) _⟩
        | false =>
          have hR2 := Lib.hid (hR'.out (by simpa using hg.out))
          clear hno hR' ca cb
          go_wp2_with fail
          go_roundw
          case rel => exact ⟨k + 1, by omega, by simp, hR2, _, rfl⟩
          case measure => simp [intOf]; omega
      · obtain rfl : X = true := hX.out.2 (fun j h1 h2 => hR.out j h1 h2 (by omega))
        clear hX hR
        go_wp2
        go_ret
        exact ⟨rfl, below_drewN (Below.refl _ _) _⟩
  · have hX : decide (A = B) = false := decide_eq_false (fun e => hl (by rw [e]))
    rw [hX]
    have n1 : ((A.length : Int) != (B.length : Int)) = true := by simpa using (show ¬ (A.length : Int) = (B.length : Int) by omega)
    have n2 : (A.length != B.length) = true := by simpa using hl
    go_enter Try.func12, Try.ntmps12
    go_wp2
    go_ret
    exact ⟨rfl, Below.refl _ _⟩
end Go.Proofs.Ytaijimckbpplnaa
