/-
  The law FrameSplits, walked: it returns true.
-/
import Derived.Test.YtgkfmcmnlpapcaaFrSpl
import Derived.Deep.DeepCutAuto
namespace Go.Proofs.Ytgkfmcmnlpapcaa
open Go.RowKit Frm

def cut200 (s : ByteArray) : ByteArray := if 200 < s.size then s.extract 0 200 else s
theorem cut200_size (s : ByteArray) : (cut200 s).size ≤ 200 := by
  unfold cut200; split
  · simp; omega
  · omega

set_option maxHeartbeats 4000000 in
set_option maxRecDepth 100000 in
theorem FrameSplits_row (A : Option Addr) (L cap : Nat) (K : Nat → Int) (S : Nat → ByteArray) (w : World) (hlen : L ≤ cap) (_hcap : cap ≤ maxLen)
    (hKb : ∀ i, 0 ≤ K i ∧ K i ≤ 255) (hSz : ∀ i, (S i).size ≤ maxLen)
    (hA : 0 < L → ∃ b off, A = some ⟨b, off, none⟩ ∧ b < w.heap.size ∧ (∀ i, i < L → w.cell? ⟨b, off + i * 2, none⟩ = some (.int .u8 (K i))) ∧ ∀ i, i < L → w.cell? ⟨b, off + i * 2 + 1, none⟩ = some (.string (S i))) :
    Calls Try.prog 7 #[.slice A L cap] w fun e w' => e = .returned (.bool true) ∧ Below w.heap.size w w' := by
  have HKB := Lib.hid hKb
  have HSZ := Lib.hid hSz
  have HA := Lib.hid hA
  have hl0 : ∀ i, layE (K i) (cut200 (S i)) = 0 := fun i => layE_ok (hKb i).1 (hKb i).2 (by have := cut200_size (S i); omega)
  have HL0 := Lib.hid hl0
  clear hKb hSz hA hl0
  obtain ⟨T, hT⟩ : ∃ T : Nat → ByteArray, T = fun i => cut200 (S i) := ⟨_, rfl⟩
  have HT := Lib.hid hT
  have hT2 : ∀ i, (T i).size ≤ 200 := fun i => by rw [hT]; exact cut200_size _
  have HT2 := Lib.hid hT2
  have hl1 : ∀ i, layE (K i) (T i) = 0 := fun i => by rw [hT]; exact HL0.out i
  have HL := Lib.hid hl1
  clear hT hT2 hl1 HL0
  unfold maxLen at _hcap
  go_enter Try.func7, Try.ntmps7
  go_wp2_with fail
  refine (works_calls _).mono ?_
  rintro e w1 ⟨rfl, hb1⟩
  go_upto_region 3 with fail
  go_cut [0] (fun s0 wx => ∃ len, s0 = .slice A len cap ∧ len ≤ 15 ∧ len ≤ L ∧ wx = w1)
  case first =>
    go_wp2_with fail
    · go_meet
      exact ⟨15, rfl, by omega, by omega, rfl⟩
    · go_meet
      exact ⟨L, rfl, by omega, by omega, rfl⟩
  case rest =>
  obtain ⟨len, rfl, h15, hlL, rfl⟩ := hcut
  go_wp2_with fail
  go_loopw [3, 4, 5, 6, 7] (fun a3 a4 a5 a6 a7 wr => ∃ (k : Nat) (l : Int), k ≤ len ∧ a5 = .int .i64 k ∧ a3 = .string (cat K T k) ∧ a4 = .int .i64 l ∧ (0 < k → 1 ≤ l) ∧ Below w.heap.size w wr) (fun _ _ a5 _ _ _ => len - (intOf a5).toNat)
  case atStart => exact ⟨0, 0, Nat.zero_le _, rfl, rfl, rfl, by omega, hb1⟩
  case round =>
    obtain ⟨k, l, hk, rfl, rfl, rfl, hl, hbr⟩ := hrel
    have hsz := cat_size HL.out HT2.out k
    by_cases hlt : k < len
    · have hlt' : (k : Int) < len := by omega
      obtain ⟨b, off, rfl, hb, hK, hS⟩ := HA.out (by omega)
      have c1 := (hbr.cell (p := ⟨b, off + k * 2, none⟩) hb).trans (hK k (by omega))
      have c2 := (hbr.cell (p := ⟨b, off + k * 2 + 1, none⟩) hb).trans (hS k (by omega))
      clear hK hS
      have C1 : ∀ x : Later (fun _ => False) wr, x.val.cell? ⟨b, off + k * 2, none⟩ = some (.int .u8 (K k)) := fun x => x.cell c1 (fun h => h)
      have C2 : ∀ x : Later (fun _ => False) wr, x.val.cell? ⟨b, off + k * 2 + 1, none⟩ = some (.string (S k)) := fun x => x.cell c2 (fun h => h)
      clear c1 c2
      have hk0 := (HKB.out k).1
      have hk1 := (HKB.out k).2
      have hs0 := HSZ.out k
      have hlz := layS_size (HL.out k)
      have hT2 := HT2.out k
      have kl := Lib.hid fun w => eq2 (lay_calls (K k) (T k) w (by unfold maxLen; omega)) (v' := .tuple #[.string (layS (K k) (T k)), .int .i64 0]) (by rw [HL.out k])
      have hcs : ((cat K T k).size : Int) + (layS (K k) (T k)).size ≤ 9223372036854775807 := by omega
      have hls : (1 : Int) ≤ (layS (K k) (T k)).size := by omega
      have hcat : cat K T (k + 1) = cat K T k ++ layS (K k) (T k) := rfl
      have HC := Lib.hid hcat
      have hsk : (S k).size ≤ 9223372036854775807 := by unfold maxLen at hs0; omega
      by_cases h2 : 200 < (S k).size
      · have hT3 : (S k).extract 0 200 = T k := by rw [HT.out]; simp [cut200, h2]
        have h2' : (200 : Int) < (S k).size := by omega
        have h2'' : (200 : Int) ≤ (S k).size := by omega
        clear hcat hlz hT2 hs0 hsz
        go_wp2_with fail
        refine wp_region_later (Mod.refl (fun _ => False) wr) (by kernel_rfl) (by kernel_rfl) ?_
        repeat (go_big_quiet_step ((go_at_call 9; exact Calls.later (kl.out _))))
        refine wpQuiet_nil ?_
        rintro _ ⟨x, rfl⟩
        have hbx : Below w.heap.size w x.val := hbr.trans (x.mod.below hbr.size (fun _ h => h.elim))
        clear C1 C2
        go_wp2
        go_roundw
        case rel => exact ⟨k + 1, _, by omega, by go_num, by rw [HC.out], rfl, fun _ => hls, hbx⟩
        case measure => simp [intOf]; omega
      · have hT3 : T k = S k := by rw [HT.out]; simp [cut200, h2]
        have h2' : (S k).size ≤ 200 := by omega
        have h2'' : ((S k).size : Int) ≤ 200 := by omega
        have h2' : ¬ (200 : Int) < (S k).size := by omega
        rw [hT3] at kl hcs hls HC
        clear hcat hlz hT2 hs0 hsz hT3 h2
        go_wp2_with fail
        refine wp_region_later (Mod.refl (fun _ => False) wr) (by kernel_rfl) (by kernel_rfl) ?_
        repeat (go_big_quiet_step ((go_at_call 9; exact Calls.later (kl.out _))))
        refine wpQuiet_nil ?_
        rintro _ ⟨x, rfl⟩
        have hbx : Below w.heap.size w x.val := hbr.trans (x.mod.below hbr.size (fun _ h => h.elim))
        clear C1 C2
        go_wp2
        go_roundw
        case rel => exact ⟨k + 1, _, by omega, by go_num, by rw [HC.out], rfl, fun _ => hls, hbx⟩
        case measure => simp [intOf]; omega
    · obtain rfl : k = len := by omega
      have hcn : cnt ((cat K T k).size + 1) (cat K T k) 0 = some k := by rw [cat_all, catF_cnt HL.out k 0 _ 0 (Nat.lt_succ_self _), Nat.zero_add]
      have hnn : cntN (cat K T k) = k := by simp [cntN, hcn]
      have hne : cntE (cat K T k) = 0 := by simp [cntE, hcn]
      have kc := Lib.hid fun w => eq2 (count_calls (cat K T k) w (by unfold maxLen; omega)) (v' := .tuple #[.int .i64 k, .int .i64 0]) (by rw [hnn, hne])
      have hnl : ¬ (k : Int) < k := by omega
      clear hcn hnn hne
      go_wp2_with fail
      refine (kc.out _).mono ?_
      rintro e w2 ⟨rfl, hb2⟩
      have hbw : Below w.heap.size w w2 := hbr.trans (hb2.mono hbr.size)
      clear hb2
      by_cases h0 : k = 0
      · have hz : ¬ (0 : Int) < k := by omega
        clear h0 hl
        go_wp2_with fail
        go_loopw [3, 12, 13, 14, 15, 16] (fun a3 a12 a13 a14 a15 a16 wr => ∃ (j m : Nat), j + m = k ∧ a12 = .int .i64 j ∧ a3 = .string (catF K T j m) ∧ Below w.heap.size w wr) (fun _ a12 _ _ _ _ _ => k - (intOf a12).toNat)
        case atStart => exact ⟨0, k, by omega, rfl, by rw [cat_all], hbw⟩
        case round =>
          obtain ⟨j, m, hjm, rfl, rfl, hbr⟩ := hrel
          have HJM := Lib.hid hjm
          cases m with
          | zero =>
            have hj : ¬ (j : Int) < k := by omega
            have he : (catF K T j 0).toList = [] := toList_nil (by simp [catF])
            clear hjm
            go_wp2
            go_ret
            exact ⟨rfl, hbr⟩
          | succ m => exfalso; omega
      · have hz : (0 : Int) < k := by omega
        have hl1 : 1 ≤ l := hl (by omega)
        obtain ⟨m0, hm0⟩ : ∃ m0, k = m0 + 1 := ⟨k - 1, by omega⟩
        have hcs : 3 ≤ (cat K T k).size := by rw [cat_all, hm0]; exact catF_pos HL.out 0 m0
        have hcn : ∀ f, cnt f ((cat K T k).extract 0 ((cat K T k).size - 1)) 0 = none := by rw [cat_all, hm0]; exact fun f => catF_cut HL.out m0 0 f 0
        have hnn : cntN ((cat K T k).extract 0 ((cat K T k).size - 1)) = 0 := by simp only [cntN, hcn]; rfl
        have hne : cntE ((cat K T k).extract 0 ((cat K T k).size - 1)) = 14 := by simp only [cntE, hcn]; rfl
        have kd := Lib.hid fun w => eq2 (count_calls ((cat K T k).extract 0 ((cat K T k).size - 1)) w (by unfold maxLen; simp; omega)) (v' := .tuple #[.int .i64 0, .int .i64 14]) (by rw [hnn, hne])
        have hcs1 : (1 : Int) ≤ (cat K T k).size := by omega
        have hcs2 : ((cat K T k).size : Int) ≤ 9223372036854775807 := by omega
        clear hcn hnn hne hm0 hcs hl h0
        go_wp2_with fail
        refine (kd.out _).mono ?_
        rintro e w3 ⟨rfl, hb3⟩
        have hbv : Below w.heap.size w w3 := hbw.trans (hb3.mono hbw.size)
        clear hb3
        go_wp2_with fail
        go_loopw [3, 12, 13, 14, 15, 16] (fun a3 a12 a13 a14 a15 a16 wr => ∃ (j m : Nat), j + m = k ∧ a12 = .int .i64 j ∧ a3 = .string (catF K T j m) ∧ Below w.heap.size w wr) (fun _ a12 _ _ _ _ _ => k - (intOf a12).toNat)
        case atStart => exact ⟨0, k, by omega, rfl, by rw [cat_all], hbv⟩
        case round =>
          obtain ⟨j, m, hjm, rfl, rfl, hbr⟩ := hrel
          have HJM := Lib.hid hjm
          cases m with
          | zero =>
            have hj : ¬ (j : Int) < k := by omega
            have he : (catF K T j 0).toList = [] := toList_nil (by simp [catF])
            clear hjm
            go_wp2
            go_ret
            exact ⟨rfl, hbr⟩
          | succ m =>
            have hj : (j : Int) < k := by omega
            have hjk : j < k := by omega
            clear hjm
            obtain ⟨q1, q2, q3, q4⟩ := catF_spl HL.out j m
            have hsz2 : (catF K T j (m + 1)).size ≤ maxLen := by
              have h1 := cat_size HL.out HT2.out k
              have h2 := cat_add K T (m + 1) j
              rw [HJM.out] at h2
              have h3 := congrArg ByteArray.size h2
              simp only [ByteArray.size_append] at h3
              unfold maxLen; omega
            have ks := Lib.hid fun w => eq2 (split_calls (catF K T j (m + 1)) w hsz2) (v' := .tuple #[.int .i64 (K j), .string (T j), .string (catF K T (j + 1) m), .int .i64 0]) (by rw [q1, q2, q3, q4])
            clear q1 q2 q3 q4 hsz2
            obtain ⟨b, off, rfl, hb, hK, hS⟩ := HA.out (by omega)
            have c1 := (hbr.cell (p := ⟨b, off + j * 2, none⟩) hb).trans (hK j (by omega))
            have c2 := (hbr.cell (p := ⟨b, off + j * 2 + 1, none⟩) hb).trans (hS j (by omega))
            clear hK hS
            have hsk : (S j).size ≤ 9223372036854775807 := by have := HSZ.out j; unfold maxLen at this; omega
            have hk0 := (HKB.out j).1
            have hk1 := (HKB.out j).2
            go_wp2_with fail
            refine (ks.out _).mono ?_
            rintro e wz ⟨rfl, hbz⟩
            have C1 : ∀ x : Later (fun _ => False) wr, x.val.cell? ⟨b, off + j * 2, none⟩ = some (.int .u8 (K j)) := fun x => x.cell c1 (fun h => h)
            have C2 : ∀ x : Later (fun _ => False) wr, x.val.cell? ⟨b, off + j * 2 + 1, none⟩ = some (.string (S j)) := fun x => x.cell c2 (fun h => h)
            have hmz : Mod (fun _ => False) wr wz := (Mod.refl _ _).after hbz
            clear c1 c2 hbz
            by_cases h2 : 200 < (S j).size
            · have hT3 : (S j).extract 0 200 = T j := by rw [HT.out]; simp [cut200, h2]
              have h2' : (200 : Int) < (S j).size := by omega
              have h2'' : (200 : Int) ≤ (S j).size := by omega
              go_wp2_with fail
              refine wp_region_later hmz (by kernel_rfl) (by kernel_rfl) ?_
              repeat (go_big_quiet_step (fail))
              refine wpQuiet_nil ?_
              rintro _ ⟨x, rfl⟩
              have hbx : Below w.heap.size w x.val := hbr.trans (x.mod.below hbr.size (fun _ h => h.elim))
              clear C1 C2
              go_wp2
              go_roundw
              case rel => exact ⟨j + 1, m, by have := HJM.out; omega, by go_num, rfl, hbx⟩
              case measure => simp [intOf]; omega
            · have hT3 : T j = S j := by rw [HT.out]; simp [cut200, h2]
              have h2'' : ((S j).size : Int) ≤ 200 := by omega
              have h2' : ¬ (200 : Int) < (S j).size := by omega
              clear h2
              go_wp2_with fail
              refine wp_region_later hmz (by kernel_rfl) (by kernel_rfl) ?_
              repeat (go_big_quiet_step (fail))
              refine wpQuiet_nil ?_
              rintro _ ⟨x, rfl⟩
              have hbx : Below w.heap.size w x.val := hbr.trans (x.mod.below hbr.size (fun _ h => h.elim))
              clear C1 C2
              go_wp2
              go_roundw
              case rel => exact ⟨j + 1, m, by have := HJM.out; omega, by go_num, rfl, hbx⟩
              case measure => simp [intOf]; omega
end Go.Proofs.Ytgkfmcmnlpapcaa
