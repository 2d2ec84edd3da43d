/-
  'MsgCut': it returns true.
-/
import Derived.Test.YtcipdimnbleljaaMsgLong
namespace Go.Proofs.Ytcipdimnbleljaa
open Go.ChangeShapes Go.WideShapes Go.ChangeAt Go.RowKit
open Extern.Stop (cell)

set_option maxHeartbeats 2000000 in
set_option maxRecDepth 100000 in
theorem MsgCut_walk (C0 : Array Value) (d0 : DV) (n : Int) (s : ByteArray) (w : World) (h0 : DraftOf C0 d0) (r0 : DraftRg d0) (a0 : BysAt w d0.p d0.bs) (hn : 0 ≤ n ∧ n < 65536) (hs : s.size ≤ maxLen) :
    Calls Try.prog 6 #[.agg C0, .int .u16 n, .string s] w fun e w' => e = .returned (.bool true) ∧ Below w.heap.size w w' := by
  unfold maxLen at hs
  have HW := Lib.hid works_calls
  have g0 := good_draft r0 none 0
  have hz0 := enc_le r0
  have hzp : 0 < (encS (msgD d0 none 0)).size := by rw [enc_size g0]; omega
  have hcut := Lib.hid (fun k (h : k < (encS (msgD d0 none 0)).size) w => refused_calls ((encS (msgD d0 none 0)).extract 0 k) 14 w (by rw [ByteArray.size_extract]; omega) (dec_cut g0 h) (by decide))
  have hmore := Lib.hid (fun (k : Nat) (h : s.size ≠ 0) (hk : 0 < k ∧ k ≤ 100) w => refused_calls (encS (msgD d0 none 0) ++ s.extract 0 k) 15 w (by rw [ByteArray.size_append, ByteArray.size_extract]; omega) (dec_more g0 (by rw [ByteArray.size_extract]; omega)) (by decide))
  have hall := Lib.hid (fun (h : s.size ≠ 0) (hk : (s.size : Int) ≤ 100) w => refused_calls (encS (msgD d0 none 0) ++ s) 15 w (by rw [ByteArray.size_append]; omega) (dec_more g0 h) (by decide))
  have hs0 := h0.size
  have hm0 := Lib.hid (fun wx (h : Below w.heap.size w wx) => draft_calls C0 d0 wx h0 r0 (a0.below h))
  have hi0 : (Try.prog.info? 28).map (·.size) = some C0.size := by rw [hs0]; kernel_rfl
  have hld0 := Lib.hid (fun wx (h : Blk wx w.heap.size C0 28) => run_load_row' (P := Try.prog) wx w.heap.size 28 C0 28 _ h Try.underlying28 rfl hi0)
  replace hi0 := Lib.hid hi0
  clear hs0 g0
  go_enter Try.func6, Try.ntmps6
  go_wp2_with fail
  refine (HW.out _).mono ?_
  rintro e w1 ⟨rfl, hb1⟩
  have hb := (Below.refl w.heap.size w).alloc (Nat.le_refl _) (.cells C0 28)
  have B0 := Lib.hid ((Blk.new w C0 28).mod ((Mod.refl (fun _ => False) _).after hb1) (fun h => h))
  replace hb1 := hb.trans (hb1.mono hb.size)
  clear hb
  go_wp2_with (refine wpList_load_v rfl 28 _ rfl ⟨w.heap.size, 0, none⟩ rfl _ (hld0.out _ B0.out) ?_)
  refine (hm0.out _ hb1).mono ?_
  rintro e w2 ⟨M0, p0, c0, rfl, hb2, hM0, hA0, _⟩
  replace hb2 := hb1.trans (hb2.mono hb1.size)
  have hl2 := Lib.hid (lays_draft M0 d0 p0 c0 w2 r0 hM0 hA0)
  clear hM0 hA0 hb1 B0 hld0 hm0
  go_wp2_with fail
  refine hl2.out.mono ?_
  rintro e w3 ⟨rfl, hb3⟩
  replace hb3 := hb2.trans (hb3.mono hb2.size)
  clear hl2 hb2
  generalize hS0 : encS (msgD d0 none 0) = S0 at hz0 hzp hcut hmore hall
  clear hS0
  have hze : ((S0.size : Int) == 0) = false := beq_eq_false_iff_ne.2 (by omega)
  have hz1 : (0 : Int) < S0.size := by omega
  have htm : n.tmod S0.size = n % S0.size := Int.tmod_eq_emod_of_nonneg hn.1
  have hk0 : 0 ≤ n % S0.size := Int.emod_nonneg _ (by omega)
  have hk1 : n % S0.size < S0.size := Int.emod_lt_of_pos _ hz1
  obtain ⟨k, hk⟩ := Int.eq_ofNat_of_zero_le hk0
  rw [hk] at htm hk1
  clear hk hk0
  go_wp2_with fail
  refine (hcut.out k (by omega) _).mono ?_
  rintro e w4 ⟨rfl, hb4⟩
  replace hb4 := hb3.trans (hb4.mono hb3.size)
  clear hb3 hcut
  by_cases hse : s.size = 0
  · have he : ((s.size : Int) == 0) = true := by rw [hse]; rfl
    go_wp2_with fail
    go_ret
    exact ⟨rfl, hb4⟩
  · have he : ((s.size : Int) == 0) = false := beq_eq_false_iff_ne.2 (by omega)
    by_cases hle : (s.size : Int) ≤ 100
    · have hmi : min (s.size : Int) 100 = s.size := by omega
      go_wp2_with fail
      refine (hall.out hse hle _).mono ?_
      rintro e w5 ⟨rfl, hb5⟩
      go_wp2_with fail
      go_ret
      exact ⟨rfl, hb4.trans (hb5.mono hb4.size)⟩
    · have hmi : min (s.size : Int) 100 = 100 := by omega
      go_wp2_with fail
      refine (hmore.out 100 hse ⟨by omega, by omega⟩ _).mono ?_
      rintro e w5 ⟨rfl, hb5⟩
      go_wp2_with fail
      go_ret
      exact ⟨rfl, hb4.trans (hb5.mono hb4.size)⟩

set_option maxRecDepth 100000 in
theorem MsgCut_calls {H : Type} {enc : TypeId × Value → H} {W : World} {base : Nat} {v0 : Value} {x0 : DataW H} {p0 : List MemPlace}
    (hv0 : Value.okWide Try.prog W .any base 28 v0) (t0 : DataW.Trod enc Try.prog W 0 (fun _ => true) true 28 v0 x0 p0)
    (n : Int) (hn : (Lit.int .u16 n).wf = true) (s : ByteArray) (hs : s.size ≤ maxLen) :
    Calls Try.prog 6 #[v0, .int .u16 n, .string s] W fun e w' => e = .returned (.bool true) ∧ Below W.heap.size W w' := by
  obtain ⟨C0, d0, rfl, h0, r0, a0⟩ := open_draft hv0 t0
  exact MsgCut_walk C0 d0 n s W h0 r0 a0 (u16_of hn) hs
end Go.Proofs.Ytcipdimnbleljaa
