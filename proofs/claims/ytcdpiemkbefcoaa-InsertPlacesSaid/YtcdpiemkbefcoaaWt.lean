/-
  Layer 3: window.Wait.
-/
import Derived.Test.YtcdpiemkbefcoaaGeo
namespace Go.Proofs.Ytcdpiemkbefcoaa
open Go.RowKit

def mx (t e : Int) : Int := if t < e then e else t
/-- may one wait? -/
def waB (e l t : Int) : Bool := wiB e l && decide (mx t e ≤ l)
def waN (e l t : Int) : Int := if waB e l t then mx t e else 0
theorem do_calls (A B : Nat) (e l t : Int) (w : World) (hA : Blk w A #[.int .i64 e, .int .i64 l] 45) (hB : Blk w B #[.int .i64 t] 3) :
    Calls Try.prog 93 #[.pointer (some ⟨A, 0, none⟩), .pointer (some ⟨B, 0, none⟩)] w fun r w' => r = .returned (.tuple #[.int .i64 (mx t e), .bool (decide (mx t e ≤ l))]) ∧ Below w.heap.size w w' := by
  have k0 := hA.cell (i := 0) rfl
  have k1 := hA.cell (i := 1) rfl
  have k2 := hB.cell (i := 0) rfl
  have hb : ∀ o, Below w.heap.size w (w.alloc o) := fun o => new_below w o
  have hM : ∀ n, (if t < e then e else t) = n → mx t e = n := fun n h => h
  by_cases h : t < e
  · have hm : mx t e = e := hM e (if_pos h)
    rw [hm]
    go_enter Try.func93, Try.ntmps93
    go_upto_region 2 with fail
    go_quiet (fail)
    go_wp2
    go_ret2
    exact ⟨rfl, below_drewN (hb _) _⟩
  · have hm : mx t e = t := hM t (if_neg h)
    rw [hm]
    go_enter Try.func93, Try.ntmps93
    go_upto_region 2 with fail
    go_quiet (fail)
    go_wp2
    go_ret2
    exact ⟨rfl, below_drewN (hb _) _⟩
theorem run_span (e l : Int) (w : World) : (Instr.build 152 #[(0, .agg #[.int .i64 e, .int .i64 l])]).run Try.prog w = .ok (.agg #[.int .i64 e, .int .i64 l]) w := by kernel_rfl
theorem asked_calls (A B S : Nat) (e l t : Int) (w : World) (hA : Blk w A #[.int .i64 e, .int .i64 l] 45) (hB : Blk w B #[.int .i64 t] 3) (hS : Blk w S #[.int .i64 e, .int .i64 l] 45) :
    Calls Try.prog 92 #[.func (.func 93) #[] #[.pointer (some ⟨A, 0, none⟩), .pointer (some ⟨B, 0, none⟩)], .slice (some ⟨S, 0, none⟩) 1 1] w fun r w' => r = .returned (.tuple #[.int .i64 (waN e l t), .bool (waB e l t)]) ∧ Below w.heap.size w w' := by
  have k0 := hS.cell (i := 0) rfl
  have k1 := hS.cell (i := 1) rfl
  have hsl := hS.lt
  have hsp := Lib.hid (fun w => span_calls e l w)
  have hdo := Lib.hid (fun (w' : World) (h : Below w.heap.size w w') => do_calls A B e l t w' (hA.mod ((Mod.refl (fun _ => False) _).after h) (fun h => h)) (hB.mod ((Mod.refl (fun _ => False) _).after h) (fun h => h)))
  have hN : waN e l t = if waB e l t then mx t e else 0 := rfl
  have hW : waB e l t = (wiB e l && decide (mx t e ≤ l)) := rfl
  generalize waN e l t = N at hN ⊢
  generalize waB e l t = W at hN hW ⊢
  generalize mx t e = m at hdo hN hW
  generalize wiB e l = b at hsp hW
  generalize decide (m ≤ l) = c at hdo hW
  replace hN := Lib.hid hN
  replace hW := Lib.hid hW
  clear hA hB hS
  go_enter Try.func92, Try.ntmps92
  go_wp2_with fail
  refine wp_loop_rounds 2 ?_
  rw [rounds_succ]
  go_wp2_with (refine wpList_build1_v rfl 152 0 _ rfl (.agg #[.int .i64 e, .int .i64 l]) rfl _ (run_span e l _) ?_)
  refine (hsp.out _).mono ?_
  rintro r w1 ⟨rfl, hb1⟩
  have l1 := (new_below w _).trans (hb1.mono (by simp))
  cases b with
  | false =>
    obtain rfl : W = false := hW.out
    obtain rfl : N = 0 := hN.out
    go_wp2_with fail
    go_ret2
    exact ⟨rfl, l1⟩
  | true =>
    obtain rfl : W = c := hW.out
    go_wp2_with fail
    rw [rounds_succ]
    go_wp2_with fail
    refine (hdo.out _ l1).mono ?_
    rintro r w2 ⟨rfl, hb2⟩
    have l2 := l1.trans (hb2.mono l1.size)
    cases W with
    | false =>
      obtain rfl : N = 0 := hN.out
      go_wp2_with fail
      go_ret2
      exact ⟨rfl, l2⟩
    | true =>
      obtain rfl : N = m := hN.out
      go_wp2_with fail
      go_ret2
      exact ⟨rfl, l2⟩
theorem wait_calls (e l t : Int) (w : World) :
    Calls Try.prog 72 #[.agg #[.int .i64 e, .int .i64 l], .int .i64 t] w fun r w' => r = .returned (.tuple #[.int .i64 (waN e l t), .bool (waB e l t)]) ∧ Below w.heap.size w w' := by
  have hl := (((Below.refl w.heap.size w).alloc (Nat.le_refl _) (.cells #[.int .i64 e, .int .i64 l] 45)).alloc (by simp) (.cells #[.int .i64 t] 3)).alloc (by simp; omega) (.cells #[.int .i64 e, .int .i64 l] 45)
  have hc := asked_calls w.heap.size (w.heap.size + 1) (w.heap.size + 1 + 1) e l t _ (((Blk.new w #[.int .i64 e, .int .i64 l] 45).alloc (.cells #[.int .i64 t] 3)).alloc (.cells #[.int .i64 e, .int .i64 l] 45))
    ((Blk.new' w (.cells #[.int .i64 e, .int .i64 l] 45) #[.int .i64 t] 3).alloc (.cells #[.int .i64 e, .int .i64 l] 45)) (blk_new3 w _ _ _ _)
  replace hc := Lib.hid hc
  go_enter Try.func72, Try.ntmps72
  go_wp2_with fail
  refine hc.out.mono ?_
  rintro r w1 ⟨rfl, hb1⟩
  go_wp2
  go_ret2
  exact ⟨rfl, hl.trans (hb1.mono hl.size)⟩
end Go.Proofs.Ytcdpiemkbefcoaa
