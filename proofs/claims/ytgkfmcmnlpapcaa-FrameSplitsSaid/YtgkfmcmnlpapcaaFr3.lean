/-
  Layer 17 (frame), third part: Count, of the program (over its iterator) and of the reference.
-/
import Derived.Test.YtgkfmcmnlpapcaaFr2
namespace Go.Proofs.Ytgkfmcmnlpapcaa
open Go.RowKit Frm

namespace Frm
/-- the errors of frames, one behind the other -/
def errs : Nat → ByteArray → List Int
  | 0, _ => []
  | f + 1, s => if s.size = 0 then [] else if ok s = true then 0 :: errs f (splR s) else [14]
/-- how many frames a text is; none: it is no row of frames -/
def cnt : Nat → ByteArray → Nat → Option Nat
  | 0, _, _ => none
  | f + 1, s, n => if s.size = 0 then some n else if ok s = true then cnt f (splR s) (n + 1) else none
def cntN (s : ByteArray) : Int := ((cnt (s.size + 1) s 0).getD 0 : Nat)
def cntE (s : ByteArray) : Int := if (cnt (s.size + 1) s 0).isSome = true then 0 else 14
theorem splR_lt (s : ByteArray) (h : ¬ s.size = 0) : (splR s).size < s.size := by
  unfold splR; split
  · rename_i e; have := ok_of s e; simp; omega
  · simp; omega
theorem splR_le (s : ByteArray) : (splR s).size ≤ s.size := by
  unfold splR; split
  · simp
  · simp
end Frm
def strSize : Value → Nat | .string s => s.size | _ => 0

set_option maxHeartbeats 400000 in
theorem count_ref (s : ByteArray) (w : World) (hs : s.size ≤ maxLen) :
    Calls Try.prog 17 #[.string s] w fun e w' => e = .returned (.tuple #[.int .i64 (cntN s), .int .i64 (cntE s)]) ∧ Below w.heap.size w w' := by
  have hs' := hs
  unfold maxLen at hs
  go_enter Try.func17, Try.ntmps17
  go_wp2
  go_loopw [0, 4] (fun t c wr => ∃ (f k : Nat) (s' : ByteArray), s'.size < f ∧ k + s'.size ≤ s.size ∧ t = .string s' ∧ c = .int .i64 k ∧ cnt f s' k = cnt (s.size + 1) s 0 ∧ Below w.heap.size w wr) (fun t _ _ => strSize t)
  case atStart => exact ⟨s.size + 1, 0, s, by omega, by omega, rfl, rfl, rfl, Below.refl _ _⟩
  case round =>
    obtain ⟨f, k, s', hf, hk, rfl, rfl, hc, hb⟩ := hrel
    have HC := Lib.hid hc
    clear hc
    have hf1 : f = f - 1 + 1 := by omega
    by_cases h0 : s'.size = 0
    · have h2 : s'.toList = [] := toList_nil h0
      have r1 : cnt (s.size + 1) s 0 = some k := by rw [← HC.out, hf1]; simp [cnt, h0]
      have r2 : cntN s = k := by simp [cntN, r1]
      have r3 : cntE s = 0 := by simp [cntE, r1]
      have R2 := Lib.hid r2
      have R3 := Lib.hid r3
      clear r1 r2 r3 HC hf1 h0
      go_wp2
      go_ret2
      exact ⟨by rw [R2.out, R3.out]; rfl, hb⟩
    · have h2 : s'.toList.isEmpty = false := toList_cons h0
      have hlt := splR_lt s' h0
      have hsp := Lib.hid (split_ref s' wr (by omega))
      by_cases hok : ok s' = true
      · have e1 : splE s' = 0 := by simp [splE, hok]
        rw [e1] at hsp
        have hn : cnt (f - 1) (splR s') (k + 1) = cnt (s.size + 1) s 0 := by rw [← HC.out]; conv => rhs; rw [hf1]; simp only [cnt]; rw [if_neg h0, if_pos hok]
        have HN := Lib.hid hn
        clear e1 hn hok HC hf1
        go_wp2_with fail
        refine hsp.out.mono ?_
        rintro e w1 ⟨rfl, hb1⟩
        go_wp2
        go_roundw
        case rel => exact ⟨f - 1, k + 1, splR s', by omega, by omega, rfl, by go_num, HN.out, hb.trans (hb1.mono hb.size)⟩
        case measure => simp [strSize]; omega
      · have e1 : splE s' = 14 := by simp [splE, hok]
        rw [e1] at hsp
        have r1 : cnt (s.size + 1) s 0 = none := by rw [← HC.out, hf1]; simp [cnt, h0, hok]
        have r2 : cntN s = 0 := by simp [cntN, r1]
        have r3 : cntE s = 14 := by simp [cntE, r1]
        have R2 := Lib.hid r2
        have R3 := Lib.hid r3
        clear r1 r2 r3 HC hf1 e1 hok
        go_wp2_with fail
        refine hsp.out.mono ?_
        rintro e w1 ⟨rfl, hb1⟩
        go_wp2
        go_ret2
        exact ⟨by rw [R2.out, R3.out]; rfl, hb.trans (hb1.mono hb.size)⟩

/-- The iterator over the errors of frames. -/
theorem errors_iter (s : ByteArray) (W : World) (Bs f : Nat) (hs : s.size ≤ maxLen) (hf : s.size < f) (hc : W.cell? ⟨Bs, 0, none⟩ = some (.string s)) (hz : W.frozen? ⟨Bs, 0, none⟩ = false) :
    Iter Try.prog 20 #[.pointer (some ⟨Bs, 0, none⟩)] (fun e : Int => #[.int .i64 e]) (fun k => k = Bs) (fun _ => False) (errs f s) W := by
  intro l J Jx n hJ hJx hY h0
  have hB := World.block_lt_of_cell? _ _ hc
  refine callsIn_of_wp Try.func20 rfl trivial ?_ rfl
  simp only [Try.ntmps20, List.size_toArray, List.length_cons, List.length_nil, Nat.reduceAdd, Nat.reduceSub, Array.replicate_succ, Array.replicate_zero, List.push_toArray, List.append_toArray, List.nil_append, List.cons_append]
  gi_wp2
  gi_loopw [3] (fun t wr => ∃ (f' : Nat) (s' : ByteArray) (e : Int) (pre : List Int), s'.size < f' ∧ s'.size ≤ s.size ∧ t = .int .i64 e ∧ (e = 0 ∨ s'.size = 0) ∧ errs f s = pre ++ errs f' s' ∧ J pre wr ∧ Bs < wr.heap.size ∧ wr.cell? ⟨Bs, 0, none⟩ = some (.string s') ∧ wr.frozen? ⟨Bs, 0, none⟩ = false) (fun _ wr => match wr.cell? ⟨Bs, 0, none⟩ with | some v => strSize v | none => 0)
  case atStart => exact ⟨f, s, 0, [], hf, Nat.le_refl _, rfl, .inl rfl, rfl, h0, hB, hc, hz⟩
  case round =>
    obtain ⟨f', s', e, pre, hf', hle, rfl, he, hx, hJ1, hB1, hc1, hz1⟩ := hrel
    have HX := Lib.hid hx
    clear hx
    by_cases h0 : s'.size = 0
    · have h2 : s'.toList = [] := toList_nil h0
      have hxs : errs f s = pre := by rw [HX.out, show f' = f' - 1 + 1 by omega]; simp [errs, h0]
      have HXS := Lib.hid hxs
      clear hxs HX h0
      gi_wp2
      go_end0
      exact ⟨⟨_, rfl⟩, .inl (by rw [HXS.out]; exact hJ1)⟩
    · have h2 : s'.toList.isEmpty = false := toList_cons h0
      have hlt := splR_lt s' h0
      obtain rfl : e = 0 := by rcases he with h | h; exact h; exact absurd h h0
      have hsp := Lib.hid (split_calls s' wr (by omega))
      have hx2 : errs f s = pre ++ splE s' :: (if ok s' = true then errs (f' - 1) (splR s') else []) := by
        rw [HX.out]; conv => lhs; rw [show f' = f' - 1 + 1 by omega]; simp only [errs]; rw [if_neg h0]
        by_cases hok : ok s' = true <;> simp [splE, hok]
      have HX2 := Lib.hid hx2
      clear hx2 HX he
      gi_wp2_with fail
      refine callW hsp.out ?_
      rintro e w1 ⟨rfl, hb⟩
      have hBs1 : Bs < w1.heap.size := Nat.lt_of_lt_of_le hB1 hb.size
      have hc1' : w1.cell? ⟨Bs, 0, none⟩ = some (.string s') := (hb.cell (p := ⟨Bs, 0, none⟩) hB1).trans hc1
      have hz1' : w1.frozen? ⟨Bs, 0, none⟩ = false := (hb.frozen (p := ⟨Bs, 0, none⟩) hB1).trans hz1
      have hm : Mod (fun k => k = Bs) wr (w1.setCell ⟨Bs, 0, none⟩ (.string (splR s'))) := Mod.setCell (S := fun k => k = Bs) ((Mod.refl _ wr).after hb) (p := ⟨Bs, 0, none⟩) (fun _ => rfl) _
      have hJ2 := hJ _ _ _ hJ1 hm
      obtain ⟨fn, tmps, assign, body, hy, hR⟩ := hY pre (splE s') _ _ HX2.out (fun k hk => by subst hk; simpa using hBs1) hJ2
      have HR := Lib.hid hR
      clear hR hm hJ2 hY hJ hJx
      gi_wp2_with fail
      refine ⟨wideN _, HR.out.mono ?_⟩
      rintro e W3 ⟨hT, (⟨rfl, hJ3⟩ | ⟨rfl, hJx3⟩)⟩
      · have hBs3 : Bs < W3.heap.size := Nat.lt_of_lt_of_le (by simpa using hBs1) hT.size
        have hc3 : W3.cell? ⟨Bs, 0, none⟩ = some (.string (splR s')) := hT.cell_of (p := ⟨Bs, 0, none⟩) (fun h => h.1 rfl) (World.cell?_setCell_same _ _ _ hc1')
        have hz3 : W3.frozen? ⟨Bs, 0, none⟩ = false := (hT.frozen (p := ⟨Bs, 0, none⟩) (by simpa using hBs1) (fun h => h.1 rfl)).trans (by simpa using hz1')
        have HC1 := Lib.hid hc1
        clear hT hc1' hz1' hc1 hz1 hc hz hBs1 hB1 hb hy
        gi_wp2
        go_roundw
        case rel =>
          refine ⟨f' - 1, splR s', splE s', pre ++ [splE s'], by omega, by omega, rfl, ?_, ?_, hJ3, hBs3, hc3, hz3⟩
          · unfold splE splR; split
            · exact .inl rfl
            · exact .inr rfl
          · rw [HX2.out]
            by_cases hok : ok s' = true
            · simp [hok]
            · have : (splR s').size = 0 := by unfold splR; rw [if_neg hok]; rfl
              simp only [List.append_assoc, List.singleton_append, if_neg hok]
              cases f' - 1 <;> simp [errs, this]
        case measure => rw [hc3, HC1.out]; simp [strSize]; omega
      · clear hT hc1' hz1' hc1 hz1 hc hz hBs1 hB1 hb hy
        gi_wp2
        refine bodyPost_ret (results_none rfl _ _ _) rfl ?_
        exact ⟨⟨_, rfl⟩, .inr ⟨pre, splE s', _, HX2.out, hJx3⟩⟩

end Go.Proofs.Ytgkfmcmnlpapcaa
