/-
  Layer 17 (frame): plain laws of frames that are laid one behind the other.
-/
import Derived.Test.YtgkfmcmnlpapcaaFrPlain
namespace Go.Proofs.Ytgkfmcmnlpapcaa
open Go.RowKit Frm
namespace Frm
theorem ext_ge (s : ByteArray) (m : Nat) (h : s.size ≤ m) : s.extract 0 m = s := by
  apply ByteArray.ext_getElem
  · simp; omega
  · intro i h1 h2
    simp only [ByteArray.getElem_extract, Nat.zero_add]
section
variable (K : Nat → Int) (T : Nat → ByteArray)
def cat : Nat → ByteArray
  | 0 => ByteArray.empty
  | k + 1 => cat k ++ layS (K k) (T k)
def catF : Nat → Nat → ByteArray
  | _, 0 => ByteArray.empty
  | k, n + 1 => layS (K k) (T k) ++ catF (k + 1) n
theorem cat_add : ∀ (n k : Nat), cat K T (k + n) = cat K T k ++ catF K T k n
  | 0, k => by simp [catF]
  | n + 1, k => by
    have := cat_add n (k + 1)
    rw [show k + (n + 1) = k + 1 + n by omega, this]
    simp [cat, catF, ByteArray.append_assoc]
theorem cat_all (n : Nat) : cat K T n = catF K T 0 n := by
  have := cat_add K T n 0
  simpa [cat] using this
variable {K T} (h : ∀ i, layE (K i) (T i) = 0) (hT : ∀ i, (T i).size ≤ 200)
include h hT
theorem cat_size : ∀ k, (cat K T k).size ≤ 203 * k
  | 0 => by simp [cat]
  | k + 1 => by
    have := cat_size k
    have h1 := layS_size (h k)
    have h2 := hT k
    simp [cat]; omega
omit hT
theorem catF_pos (k n : Nat) : 3 ≤ (catF K T k (n + 1)).size := by
  have h1 := layS_size (h k)
  simp [catF]; omega
theorem catF_spl (k n : Nat) : splE (catF K T k (n + 1)) = 0 ∧ splK (catF K T k (n + 1)) = K k ∧ splB (catF K T k (n + 1)) = T k ∧ splR (catF K T k (n + 1)) = catF K T (k + 1) n := more_spl (h k)
theorem catF_cnt : ∀ (n k f m : Nat), (catF K T k n).size < f → cnt f (catF K T k n) m = some (m + n)
  | 0, k, f, m, hf => by
    obtain ⟨f, rfl⟩ : ∃ g, f = g + 1 := ⟨f - 1, by omega⟩
    simp [cnt, catF]
  | n + 1, k, f, m, hf => by
    obtain ⟨f, rfl⟩ : ∃ g, f = g + 1 := ⟨f - 1, by omega⟩
    have hp := catF_pos h k n
    have h1 := layS_size (h k)
    have hz : (catF K T k (n + 1)).size = 3 + (T k).size + (catF K T (k + 1) n).size := by simp [catF]; omega
    unfold cnt
    rw [if_neg (by omega), if_pos (by exact more_ok (h k)), (catF_spl h k n).2.2.2, catF_cnt n (k + 1) f (m + 1) (by omega)]
    congr 1; omega
theorem catF_cut : ∀ (n k f m : Nat), cnt f ((catF K T k (n + 1)).extract 0 ((catF K T k (n + 1)).size - 1)) m = none
  | _, _, 0, _ => rfl
  | 0, k, f + 1, m => by
    have hp : 3 ≤ (catF K T k 1).size := catF_pos h k 0
    have e : catF K T k 1 = layS (K k) (T k) := by simp [catF]
    have hc := cut_ok (laid_whole (h k)) (n := (layS (K k) (T k)).size - 1) (by rw [e] at hp; omega)
    rw [e] at hp
    rw [show catF K T k (0 + 1) = layS (K k) (T k) from e]
    have hz : ((layS (K k) (T k)).extract 0 ((layS (K k) (T k)).size - 1)).size = (layS (K k) (T k)).size - 1 := by simp
    unfold cnt
    rw [if_neg (by rw [hz]; omega), if_neg (by rw [hc]; simp)]
  | n + 1, k, f + 1, m => by
    have hp := catF_pos h (k + 1) n
    have h1 := layS_size (h k)
    have e : (catF K T k (n + 1 + 1)).extract 0 ((catF K T k (n + 1 + 1)).size - 1) = layS (K k) (T k) ++ (catF K T (k + 1) (n + 1)).extract 0 ((catF K T (k + 1) (n + 1)).size - 1) := by
      rw [show catF K T k (n + 1 + 1) = layS (K k) (T k) ++ catF K T (k + 1) (n + 1) from rfl, ByteArray.extract_append, ByteArray.size_append]
      congr 1
      · exact ext_ge _ _ (by omega)
      · congr 1 <;> omega
    rw [e]
    unfold cnt
    rw [if_neg (by simp; omega), if_pos (more_ok (h k)), (more_spl (h k)).2.2.2]
    exact catF_cut n (k + 1) f (m + 1)
end
end Frm
end Go.Proofs.Ytgkfmcmnlpapcaa
