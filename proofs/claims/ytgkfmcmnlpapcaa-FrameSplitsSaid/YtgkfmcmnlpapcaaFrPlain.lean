/-
  Layer 17 (frame): plain laws of laying and parsing.
-/
import Derived.Test.YtgkfmcmnlpapcaaFrWorks
namespace Go.Proofs.Ytgkfmcmnlpapcaa
open Go.RowKit Frm
namespace Frm

theorem head3 (k : Int) (b : ByteArray) : (strOfNums [k, (b.size : Int) / 256, (b.size : Int) % 256]).size = 3 := rfl

theorem layS_ok {k : Int} {b : ByteArray} (h : layE k b = 0) : layS k b = strOfNums [k, (b.size : Int) / 256, (b.size : Int) % 256] ++ b := by simp [layS, h]
theorem layS_size {k : Int} {b : ByteArray} (h : layE k b = 0) : (layS k b).size = 3 + b.size := by rw [layS_ok h, ByteArray.size_append, head3]
theorem layE_ok {k : Int} {b : ByteArray} (h0 : 0 ≤ k) (h1 : k ≤ 255) (h2 : b.size ≤ 65535) : layE k b = 0 := by
  unfold layE; rw [if_neg (by omega), if_neg (by omega)]
theorem layE_zero {k : Int} {b : ByteArray} (h : layE k b = 0) : 0 ≤ k ∧ k ≤ 255 ∧ b.size ≤ 65535 := by
  unfold layE at h
  split at h
  · omega
  · split at h <;> omega

theorem hd (x y z : Int) (b : ByteArray) (i : Nat) (hi : i < 3) (h : i < (strOfNums [x, y, z] ++ b).size) : (strOfNums [x, y, z] ++ b)[i] = UInt8.ofNat (([x, y, z][i]'(by simpa using hi)).toNat) := by
  rw [ByteArray.getElem_append_left (show i < (strOfNums [x, y, z]).size by simpa [strOfNums_size] using hi)]
  rcases i with _ | _ | _ | i
  · rfl
  · rfl
  · rfl
  · omega

theorem laid_len {k : Int} {b : ByteArray} (h : layE k b = 0) : len (layS k b) = b.size := by
  have hz := layS_size h
  obtain ⟨_, _, h2⟩ := layE_zero h
  unfold len
  rw [dif_pos (by omega)]
  have e := layS_ok h
  have a1 : (layS k b)[1]'(by omega) = UInt8.ofNat (((b.size : Int) / 256).toNat) := by
    simp only [e]; exact hd _ _ _ _ 1 (by omega) _
  have a2 : (layS k b)[2]'(by omega) = UInt8.ofNat (((b.size : Int) % 256).toNat) := by
    simp only [e]; exact hd _ _ _ _ 2 (by omega) _
  rw [a1, a2]
  simp only [UInt8.toNat_ofNat']
  omega
theorem laid_ok {k : Int} {b : ByteArray} (h : layE k b = 0) : ok (layS k b) = true := by
  have := layS_size h; have := laid_len h
  simp [ok]; omega
theorem laid_K {k : Int} {b : ByteArray} (h : layE k b = 0) : splK (layS k b) = k := by
  obtain ⟨h0, h1, _⟩ := layE_zero h
  have hz := layS_size h
  have e := layS_ok h
  unfold splK
  rw [dif_pos (laid_ok h)]
  have a0 : (layS k b)[0]'(by omega) = UInt8.ofNat (k.toNat) := by
    simp only [e]; exact hd _ _ _ _ 0 (by omega) _
  rw [a0, UInt8.toNat_ofNat']
  omega
theorem laid_B {k : Int} {b : ByteArray} (h : layE k b = 0) : splB (layS k b) = b := by
  unfold splB
  rw [if_pos (laid_ok h), laid_len h, layS_ok h]
  exact ByteArray.extract_append_eq_right (by rw [head3]) (by rw [head3])
theorem laid_R {k : Int} {b : ByteArray} (h : layE k b = 0) : splR (layS k b) = ByteArray.empty := by
  unfold splR
  rw [if_pos (laid_ok h), laid_len h]
  apply ByteArray.extract_eq_empty_iff.2
  have := layS_size h; omega
theorem laid_parE {k : Int} {b : ByteArray} (h : layE k b = 0) : parE (layS k b) = 0 := by
  unfold parE; rw [if_pos (laid_ok h), laid_R h]; rfl
theorem laid_parK {k : Int} {b : ByteArray} (h : layE k b = 0) : parK (layS k b) = k := by
  unfold parK; rw [if_pos (laid_parE h), laid_K h]
theorem laid_parB {k : Int} {b : ByteArray} (h : layE k b = 0) : parB (layS k b) = b := by
  unfold parB; rw [if_pos (laid_parE h), laid_B h]

theorem par_bad {s : ByteArray} (h : ¬ parE s = 0) : parK s = 0 ∧ parB s = ByteArray.empty := by simp [parK, parB, h]
theorem par_ok {s : ByteArray} (h : parE s = 0) : ok s = true ∧ s.size = 3 + len s := by
  unfold parE at h
  split at h
  · rename_i ho
    split at h
    · rename_i hr
      have := ok_of s ho
      unfold splR at hr
      rw [if_pos ho] at hr
      simp at hr
      exact ⟨ho, by omega⟩
    · omega
  · omega
theorem par_back {s : ByteArray} (h : parE s = 0) : layE (parK s) (parB s) = 0 ∧ layS (parK s) (parB s) = s := by
  obtain ⟨ho, hz⟩ := par_ok h
  have hl := len_lt s
  have eK : parK s = (s[0]'(by omega)).toNat := by unfold parK splK; rw [if_pos h, dif_pos ho]
  have eB : parB s = s.extract 3 (3 + len s) := by unfold parB splB; rw [if_pos h, if_pos ho]
  have hbz : (parB s).size = len s := by rw [eB]; simp; omega
  have h0 := (s[0]'(by omega)).toNat_lt
  have hlay : layE (parK s) (parB s) = 0 := layE_ok (by rw [eK]; omega) (by rw [eK]; omega) (by omega)
  refine ⟨hlay, ?_⟩
  have hsz := layS_size hlay
  apply ByteArray.ext_getElem
  · omega
  · intro i hi hi'
    have e := layS_ok hlay
    have b1 := (s[1]'(by omega)).toNat_lt
    have b2 := (s[2]'(by omega)).toNat_lt
    have hlen : len s = 256 * (s[1]'(by omega)).toNat + (s[2]'(by omega)).toNat := by unfold len; rw [dif_pos (by omega)]
    by_cases h3 : i < 3
    · simp only [e]
      rw [hd _ _ _ _ i h3]
      rcases i with _ | _ | _ | i
      · simp [eK]
      · simp only [List.getElem_cons_succ, List.getElem_cons_zero]
        apply UInt8.toNat_inj.1
        rw [UInt8.toNat_ofNat', show s[0 + 1]'hi' = s[1] from rfl]; omega
      · simp only [List.getElem_cons_succ, List.getElem_cons_zero]
        apply UInt8.toNat_inj.1
        rw [UInt8.toNat_ofNat', show s[0 + 1 + 1]'hi' = s[2] from rfl]; omega
      · omega
    · simp only [e]
      rw [ByteArray.getElem_append_right (by rw [head3]; omega)]
      simp only [head3, eB, ByteArray.getElem_extract]
      congr 1
      omega

/-! A frame that is cut, and one with something behind it. -/
theorem cut_len {s : ByteArray} {n : Nat} (h3 : 3 ≤ n) (hn : n ≤ s.size) : len (s.extract 0 n) = len s := by
  have hz : (s.extract 0 n).size = n := by simp; omega
  unfold len
  rw [dif_pos (by omega), dif_pos (by omega)]
  simp only [ByteArray.getElem_extract, Nat.zero_add]
theorem cut_ok {s : ByteArray} {n : Nat} (hs : s.size = 3 + len s) (hn : n < s.size) : ok (s.extract 0 n) = false := by
  have hz : (s.extract 0 n).size = n := by simp; omega
  by_cases h3 : 3 ≤ n
  · have := cut_len h3 (Nat.le_of_lt hn)
    simp [ok]; omega
  · simp [ok]; omega
theorem more_len {s m : ByteArray} (h3 : 3 ≤ s.size) : len (s ++ m) = len s := by
  unfold len
  rw [dif_pos (by simp; omega), dif_pos h3]
  rw [ByteArray.getElem_append_left (by omega), ByteArray.getElem_append_left (by omega)]
theorem bad_all {s : ByteArray} (h : ok s = false) : parE s = 14 ∧ parK s = 0 ∧ parB s = ByteArray.empty ∧ splE s = 14 ∧ splK s = 0 ∧ splB s = ByteArray.empty ∧ splR s = ByteArray.empty := by
  simp [parE, parK, parB, splE, splK, splB, splR, h]
theorem laid_whole {k : Int} {b : ByteArray} (h : layE k b = 0) : (layS k b).size = 3 + len (layS k b) := by rw [layS_size h, laid_len h]
theorem more_ok {k : Int} {b m : ByteArray} (h : layE k b = 0) : ok (layS k b ++ m) = true := by
  have h1 := layS_size h
  have h2 := more_len (m := m) (show 3 ≤ (layS k b).size by omega)
  have h3 := laid_len h
  simp [ok]; omega
theorem more_spl {k : Int} {b m : ByteArray} (h : layE k b = 0) : splE (layS k b ++ m) = 0 ∧ splK (layS k b ++ m) = k ∧ splB (layS k b ++ m) = b ∧ splR (layS k b ++ m) = m := by
  have h1 := layS_size h
  have h2 := more_len (m := m) (show 3 ≤ (layS k b).size by omega)
  have h3 := laid_len h
  have ho := more_ok (m := m) h
  have hK := laid_K h
  refine ⟨by simp [splE, ho], ?_, ?_, ?_⟩
  · unfold splK at hK ⊢
    rw [dif_pos (laid_ok h)] at hK
    rw [dif_pos ho, ByteArray.getElem_append_left (by omega)]
    exact hK
  · unfold splB
    rw [if_pos ho, h2, h3, layS_ok h, ByteArray.append_assoc]
    have q := ByteArray.extract_append_size_add (a := strOfNums [k, (b.size : Int) / 256, (b.size : Int) % 256]) (b := b ++ m) (i := 0) (j := b.size)
    rw [head3] at q
    exact q.trans (ByteArray.extract_append_eq_left rfl)
  · unfold splR
    rw [if_pos ho, h2, h3]
    exact ByteArray.extract_append_eq_right (by omega) (by simp)
theorem more_par {k : Int} {b m : ByteArray} (h : layE k b = 0) (hm : ¬ m.size = 0) : parE (layS k b ++ m) = 15 := by
  unfold parE
  rw [if_pos (more_ok h), (more_spl h).2.2.2, if_neg hm]
end Frm
end Go.Proofs.Ytgkfmcmnlpapcaa
