/-
  Layer 11, the program's: Places, as an iterator.
-/
import Derived.Test.YtpbmeeogledmdaeTmI
namespace Go.Proofs.Ytpbmeeogledmdae
open Go.RowKit
attribute [local go_sem] Oper.semAt_some

/-- d pairs that begin with i -/
def rowP (i d : Nat) : List (Int × Int) := (List.range d).map fun k => ((i : Int), ((i + k : Nat) : Int))
/-- the pairs that begin with less than i -/
def prsI (N i : Nat) : List (Int × Int) := (List.range i).flatMap fun i => rowP i (N - i)
def prsJ (N i d : Nat) : List (Int × Int) := prsI N i ++ rowP i d
/-- all pairs of places -/
def prs (n : Int) : List (Int × Int) := if 16 < n then [] else prsI (n + 1).toNat (n + 1).toNat
theorem rowP_succ (i d : Nat) : rowP i (d + 1) = rowP i d ++ [((i : Int), ((i + d : Nat) : Int))] := by
  unfold rowP
  rw [List.range_succ, List.map_append]
  rfl
theorem prsI_succ (N i : Nat) : prsI N (i + 1) = prsI N i ++ rowP i (N - i) := by
  unfold prsI
  rw [List.range_succ, List.flatMap_append]
  simp
theorem prsJ_zero (N i : Nat) : prsJ N i 0 = prsI N i := by simp [prsJ, rowP]
theorem prsJ_succ (N i d : Nat) : prsJ N i (d + 1) = prsJ N i d ++ [((i : Int), ((i + d : Nat) : Int))] := by
  unfold prsJ
  rw [rowP_succ, List.append_assoc]
theorem prsJ_end (N i : Nat) : prsJ N i (N - i) = prsI N (i + 1) := (prsI_succ N i).symm
theorem rowP_split (i : Nat) {d : Nat} : ∀ {e : Nat}, d < e → ∃ rest, rowP i e = rowP i d ++ ((i : Int), ((i + d : Nat) : Int)) :: rest
  | 0, h => by omega
  | e + 1, h => by
    by_cases hd : d = e
    · subst hd
      exact ⟨[], rowP_succ i d⟩
    · obtain ⟨rest, hr⟩ := rowP_split i (d := d) (e := e) (by omega)
      exact ⟨rest ++ [((i : Int), ((i + e : Nat) : Int))], by rw [rowP_succ, hr]; simp⟩
theorem prsI_split (N : Nat) {i : Nat} : ∀ {m : Nat}, i < m → ∃ rest, prsI N m = prsI N (i + 1) ++ rest
  | 0, h => by omega
  | m + 1, h => by
    by_cases hd : i = m
    · subst hd
      exact ⟨[], by simp⟩
    · obtain ⟨rest, hr⟩ := prsI_split N (i := i) (m := m) (by omega)
      exact ⟨rest ++ rowP m (N - m), by rw [prsI_succ, hr]; simp⟩
theorem prs_split {N i d : Nat} (hi : i < N) (hd : d < N - i) : ∃ rest, prsI N N = prsJ N i d ++ ((i : Int), ((i + d : Nat) : Int)) :: rest := by
  obtain ⟨r1, h1⟩ := prsI_split N hi
  obtain ⟨r2, h2⟩ := rowP_split i hd
  exact ⟨r2 ++ r1, by rw [h1, prsI_succ, h2]; simp [prsJ]⟩
theorem rowP_len (i d : Nat) : (rowP i d).length = d := by simp [rowP]
theorem noGoto_normal {Q : Exit → Act → World → Prop} {a : Act} {w : World} (h : Q .normal a w) : Exit.noGoto Q .normal a w := h
theorem places11_calls (n : Int) (w : World) : Calls Try.prog 71 #[.int .i64 n] w fun e w' =>
    e = .returned (.func (.func 75) #[] #[.pointer (some ⟨w.heap.size, 0, none⟩)]) ∧ w.alloc (.cells #[.int .i64 n] 3) = w' := by
  go_enter Try.func71, Try.ntmps71
  go_wp2
  go_ret
  exact ⟨rfl, rfl⟩

set_option maxHeartbeats 1000000 in
set_option maxRecDepth 100000 in
theorem places11_iter (n : Int) (w W : World) (b1 : Nat) (hb : Below w.heap.size w W) (h1 : W.cell? ⟨b1, 0, none⟩ = some (.int .i64 n)) :
    Iter Try.prog 75 #[.pointer (some ⟨b1, 0, none⟩)] (fun x : Int × Int => #[.int .i64 x.1, .int .i64 x.2]) (fun _ => False) (fun k => k < w.heap.size ∨ k = b1) (prs n) W := by
  intro yl J Jx m hJ hJx hY h0
  replace hY := Lib.hid hY
  replace hJ := Lib.hid hJ
  replace hJx := Lib.hid hJx
  refine callsIn_of_wp Try.func75 rfl trivial ?_ rfl
  simp only [Try.ntmps75, List.size_toArray, List.length_cons, List.length_nil, Nat.reduceAdd, Nat.reduceSub, Array.replicate_succ, Array.replicate_zero, List.push_toArray, List.append_toArray, List.nil_append, List.cons_append]
  refine wpIn_wide.2 (wp_scope_straight ((wpIn_wide (n := m)).1 ?_))
  by_cases c0 : n > 16
  · have hz : prs n = [] := by unfold prs; rw [if_pos (by omega)]
    rw [hz]
    clear hY hJ hJx hz
    gi_wp2
    rw [Exit.noGoto_ret]
    refine bodyPost_ret (results_none rfl _ _ _) rfl ?_
    exact ⟨⟨_, rfl⟩, .inl h0⟩
  · obtain ⟨N, hN⟩ : ∃ N, N = (n + 1).toNat := ⟨_, rfl⟩
    have hz : prs n = prsI N N := by unfold prs; rw [if_neg (by omega), hN]
    rw [hz] at hY ⊢
    clear hz
    gi_wp2
    refine wpIn_label ?_
    gi_wp2
    gi_loopw [3] (fun o wr => ∃ i : Nat, i ≤ N ∧ o = .int .i64 i ∧ J (prsI N i) wr ∧ Below w.heap.size w wr ∧ wr.cell? ⟨b1, 0, none⟩ = some (.int .i64 n)) (fun o _ => N - (intOf o).toNat)
    case atStart => exact ⟨0, Nat.zero_le _, rfl, h0, hb, h1⟩
    case round =>
      obtain ⟨i, hi, rfl, hJk, hbr, c1⟩ := hrel
      by_cases hlt : (i : Int) ≤ n
      · have s1 : IntKind.i64.wrap ((i : Int) + 1) = (i : Int) + 1 := IntWalk.i64_in _ (by omega)
        have hiN : i < N := by omega
        clear h0 h1 hb
        gi_wp2
        gi_loopw [4] (fun o wr => ∃ d : Nat, d ≤ N - i ∧ o = .int .i64 ((i + d : Nat) : Int) ∧ J (prsJ N i d) wr ∧ Below w.heap.size w wr ∧ wr.cell? ⟨b1, 0, none⟩ = some (.int .i64 n)) (fun o _ => N - (intOf o).toNat)
        case atStart => exact ⟨0, Nat.zero_le _, rfl, by rw [prsJ_zero]; exact hJk, hbr, c1⟩
        case round =>
          clear hJk hbr c1
          obtain ⟨d, hd, rfl, hJk, hbr, c1⟩ := hrel
          by_cases hlt2 : ((i + d : Nat) : Int) ≤ n
          · have s2 : IntKind.i64.wrap (((i + d : Nat) : Int) + 1) = ((i + d : Nat) : Int) + 1 := IntWalk.i64_in _ (by omega)
            have hdN : d < N - i := by omega
            obtain ⟨rest, hsplit⟩ := prs_split hiN hdN
            have hsc := Lib.hid (prsJ_succ N i d)
            replace hsplit := Lib.hid hsplit
            obtain ⟨jj, hjj⟩ : ∃ jj : Int, jj = ((i + d : Nat) : Int) := ⟨_, rfl⟩
            rw [← hjj] at hsplit hsc hlt2 s2 ⊢
            obtain ⟨fn, tmps, assign, body, hy, hR⟩ := hY.out _ _ _ _ hsplit.out (fun _ h => h.elim) hJk
            have HR := Lib.hid hR
            replace hjj := Lib.hid hjj
            have hb2 := Lib.hid hbr
            clear hR hJk hY hJ hJx hbr
            gi_wp2_with fail
            refine ⟨wideN _, HR.out.mono ?_⟩
            rintro e W3 ⟨hT, (⟨rfl, hJ3⟩ | ⟨rfl, hJx3⟩)⟩
            · have c1' := Lib.hid (hT.cell_of (p := ⟨b1, 0, none⟩) (fun h => h.2 (.inr rfl)) c1)
              have hb3 := Lib.hid (hb2.out.trans (hT.below hb2.out.size (fun k h => Nat.le_of_not_lt fun hlt => h.2 (.inl hlt))))
              clear hT c1 hy hb2
              gi_wp2
              go_roundw
              case rel => exact ⟨d + 1, by omega, by have := hjj.out; simp; omega, by rw [hsc.out]; exact hJ3, hb3.out, c1'.out⟩
              case measure => have := hjj.out; simp [intOf]; omega
            · clear hT c1 hy hb2
              gi_wp2
              refine noGoto_normal ?_
              go_end0
              exact ⟨⟨_, rfl⟩, .inr ⟨_, _, _, hsplit.out, hJx3⟩⟩
          · obtain rfl : d = N - i := by omega
            rw [prsJ_end] at hJk
            replace hJk := Lib.hid hJk
            gi_wp2
            go_roundw
            case rel => exact ⟨i + 1, by omega, by simp, hJk.out, hbr, c1⟩
            case measure => simp [intOf]; omega
      · obtain rfl : i = N := by omega
        gi_wp2
        go_end0
        exact ⟨⟨_, rfl⟩, .inl (by rw [← hN]; exact hJk)⟩
end Go.Proofs.Ytpbmeeogledmdae
