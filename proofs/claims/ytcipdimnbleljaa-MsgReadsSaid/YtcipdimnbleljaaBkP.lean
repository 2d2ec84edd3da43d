/-
  Layer 17 (frame): plain laws of laying and parsing.
  Layer 18 (msg): plain laws: what is laid is read back, and back again. No program in sight.
  Layer 18 (msg): a draft's message may be. No program in sight.
-/
import Derived.Test.YtcipdimnbleljaaFr2
import Derived.Test.YtcipdimnbleljaaDe
import Derived.Test.YtcipdimnbleljaaSame
import Derived.Test.YtcipdimnbleljaaDm3P
namespace Go.Proofs.Ytcipdimnbleljaa
open Go.RowKit Frm
namespace Frm

theorem head3 (k : Int) (b : ByteArray) : (strOfNums [k, (b.size : Int) / 256, (b.size : Int) % 256]).size = 3 := rfl

theorem layS_ok {k : Int} {b : ByteArray} (h : layE k b = 0) : layS k b = strOfNums [k, (b.size : Int) / 256, (b.size : Int) % 256] ++ b := by simp [layS, h]
theorem layS_size {k : Int} {b : ByteArray} (h : layE k b = 0) : (layS k b).size = 3 + b.size := by rw [layS_ok h, ByteArray.size_append, head3]
theorem layE_ok {k : Int} {b : ByteArray} (h0 : 0 ≤ k) (h1 : k ≤ 255) (h2 : b.size ≤ 65535) : layE k b = 0 := by
  unfold layE; rw [if_neg (by omega), if_neg (by omega)]
theorem layE_zero {k : Int} {b : ByteArray} (h : layE k b = 0) : 0 ≤ k ∧ k ≤ 255 ∧ b.size ≤ 65535 := by
  unfold layE at h
  split at h
  · omega
  · split at h <;> omega

theorem hd (x y z : Int) (b : ByteArray) (i : Nat) (hi : i < 3) (h : i < (strOfNums [x, y, z] ++ b).size) : (strOfNums [x, y, z] ++ b)[i] = UInt8.ofNat (([x, y, z][i]'(by simpa using hi)).toNat) := by
  rw [ByteArray.getElem_append_left (show i < (strOfNums [x, y, z]).size by simpa [strOfNums_size] using hi)]
  rcases i with _ | _ | _ | i
  · rfl
  · rfl
  · rfl
  · omega

theorem laid_len {k : Int} {b : ByteArray} (h : layE k b = 0) : len (layS k b) = b.size := by
  have hz := layS_size h
  obtain ⟨_, _, h2⟩ := layE_zero h
  unfold len
  rw [dif_pos (by omega)]
  have e := layS_ok h
  have a1 : (layS k b)[1]'(by omega) = UInt8.ofNat (((b.size : Int) / 256).toNat) := by
    simp only [e]; exact hd _ _ _ _ 1 (by omega) _
  have a2 : (layS k b)[2]'(by omega) = UInt8.ofNat (((b.size : Int) % 256).toNat) := by
    simp only [e]; exact hd _ _ _ _ 2 (by omega) _
  rw [a1, a2]
  simp only [UInt8.toNat_ofNat']
  omega
theorem laid_ok {k : Int} {b : ByteArray} (h : layE k b = 0) : ok (layS k b) = true := by
  have := layS_size h; have := laid_len h
  simp [ok]; omega
theorem laid_K {k : Int} {b : ByteArray} (h : layE k b = 0) : splK (layS k b) = k := by
  obtain ⟨h0, h1, _⟩ := layE_zero h
  have hz := layS_size h
  have e := layS_ok h
  unfold splK
  rw [dif_pos (laid_ok h)]
  have a0 : (layS k b)[0]'(by omega) = UInt8.ofNat (k.toNat) := by
    simp only [e]; exact hd _ _ _ _ 0 (by omega) _
  rw [a0, UInt8.toNat_ofNat']
  omega
theorem laid_B {k : Int} {b : ByteArray} (h : layE k b = 0) : splB (layS k b) = b := by
  unfold splB
  rw [if_pos (laid_ok h), laid_len h, layS_ok h]
  exact ByteArray.extract_append_eq_right (by rw [head3]) (by rw [head3])
theorem laid_R {k : Int} {b : ByteArray} (h : layE k b = 0) : splR (layS k b) = ByteArray.empty := by
  unfold splR
  rw [if_pos (laid_ok h), laid_len h]
  apply ByteArray.extract_eq_empty_iff.2
  have := layS_size h; omega
theorem laid_parE {k : Int} {b : ByteArray} (h : layE k b = 0) : parE (layS k b) = 0 := by
  unfold parE; rw [if_pos (laid_ok h), laid_R h]; rfl
theorem laid_parK {k : Int} {b : ByteArray} (h : layE k b = 0) : parK (layS k b) = k := by
  unfold parK; rw [if_pos (laid_parE h), laid_K h]
theorem laid_parB {k : Int} {b : ByteArray} (h : layE k b = 0) : parB (layS k b) = b := by
  unfold parB; rw [if_pos (laid_parE h), laid_B h]

theorem par_bad {s : ByteArray} (h : ¬ parE s = 0) : parK s = 0 ∧ parB s = ByteArray.empty := by simp [parK, parB, h]
theorem par_ok {s : ByteArray} (h : parE s = 0) : ok s = true ∧ s.size = 3 + len s := by
  unfold parE at h
  split at h
  · rename_i ho
    split at h
    · rename_i hr
      have := ok_of s ho
      unfold splR at hr
      rw [if_pos ho] at hr
      simp at hr
      exact ⟨ho, by omega⟩
    · omega
  · omega
theorem par_back {s : ByteArray} (h : parE s = 0) : layE (parK s) (parB s) = 0 ∧ layS (parK s) (parB s) = s := by
  obtain ⟨ho, hz⟩ := par_ok h
  have hl := len_lt s
  have eK : parK s = (s[0]'(by omega)).toNat := by unfold parK splK; rw [if_pos h, dif_pos ho]
  have eB : parB s = s.extract 3 (3 + len s) := by unfold parB splB; rw [if_pos h, if_pos ho]
  have hbz : (parB s).size = len s := by rw [eB]; simp; omega
  have h0 := (s[0]'(by omega)).toNat_lt
  have hlay : layE (parK s) (parB s) = 0 := layE_ok (by rw [eK]; omega) (by rw [eK]; omega) (by omega)
  refine ⟨hlay, ?_⟩
  have hsz := layS_size hlay
  apply ByteArray.ext_getElem
  · omega
  · intro i hi hi'
    have e := layS_ok hlay
    have b1 := (s[1]'(by omega)).toNat_lt
    have b2 := (s[2]'(by omega)).toNat_lt
    have hlen : len s = 256 * (s[1]'(by omega)).toNat + (s[2]'(by omega)).toNat := by unfold len; rw [dif_pos (by omega)]
    by_cases h3 : i < 3
    · simp only [e]
      rw [hd _ _ _ _ i h3]
      rcases i with _ | _ | _ | i
      · simp [eK]
      · simp only [List.getElem_cons_succ, List.getElem_cons_zero]
        apply UInt8.toNat_inj.1
        rw [UInt8.toNat_ofNat', show s[0 + 1]'hi' = s[1] from rfl]; omega
      · simp only [List.getElem_cons_succ, List.getElem_cons_zero]
        apply UInt8.toNat_inj.1
        rw [UInt8.toNat_ofNat', show s[0 + 1 + 1]'hi' = s[2] from rfl]; omega
      · omega
    · simp only [e]
      rw [ByteArray.getElem_append_right (by rw [head3]; omega)]
      simp only [head3, eB, ByteArray.getElem_extract]
      congr 1
      omega

/-! A frame that is cut, and one with something behind it. -/
theorem cut_len {s : ByteArray} {n : Nat} (h3 : 3 ≤ n) (hn : n ≤ s.size) : len (s.extract 0 n) = len s := by
  have hz : (s.extract 0 n).size = n := by simp; omega
  unfold len
  rw [dif_pos (by omega), dif_pos (by omega)]
  simp only [ByteArray.getElem_extract, Nat.zero_add]
theorem cut_ok {s : ByteArray} {n : Nat} (hs : s.size = 3 + len s) (hn : n < s.size) : ok (s.extract 0 n) = false := by
  have hz : (s.extract 0 n).size = n := by simp; omega
  by_cases h3 : 3 ≤ n
  · have := cut_len h3 (Nat.le_of_lt hn)
    simp [ok]; omega
  · simp [ok]; omega
theorem more_len {s m : ByteArray} (h3 : 3 ≤ s.size) : len (s ++ m) = len s := by
  unfold len
  rw [dif_pos (by simp; omega), dif_pos h3]
  rw [ByteArray.getElem_append_left (by omega), ByteArray.getElem_append_left (by omega)]
theorem bad_all {s : ByteArray} (h : ok s = false) : parE s = 14 ∧ parK s = 0 ∧ parB s = ByteArray.empty ∧ splE s = 14 ∧ splK s = 0 ∧ splB s = ByteArray.empty ∧ splR s = ByteArray.empty := by
  simp [parE, parK, parB, splE, splK, splB, splR, h]
theorem laid_whole {k : Int} {b : ByteArray} (h : layE k b = 0) : (layS k b).size = 3 + len (layS k b) := by rw [layS_size h, laid_len h]
theorem more_ok {k : Int} {b m : ByteArray} (h : layE k b = 0) : ok (layS k b ++ m) = true := by
  have h1 := layS_size h
  have h2 := more_len (m := m) (show 3 ≤ (layS k b).size by omega)
  have h3 := laid_len h
  simp [ok]; omega
theorem more_spl {k : Int} {b m : ByteArray} (h : layE k b = 0) : splE (layS k b ++ m) = 0 ∧ splK (layS k b ++ m) = k ∧ splB (layS k b ++ m) = b ∧ splR (layS k b ++ m) = m := by
  have h1 := layS_size h
  have h2 := more_len (m := m) (show 3 ≤ (layS k b).size by omega)
  have h3 := laid_len h
  have ho := more_ok (m := m) h
  have hK := laid_K h
  refine ⟨by simp [splE, ho], ?_, ?_, ?_⟩
  · unfold splK at hK ⊢
    rw [dif_pos (laid_ok h)] at hK
    rw [dif_pos ho, ByteArray.getElem_append_left (by omega)]
    exact hK
  · unfold splB
    rw [if_pos ho, h2, h3, layS_ok h, ByteArray.append_assoc]
    have q := ByteArray.extract_append_size_add (a := strOfNums [k, (b.size : Int) / 256, (b.size : Int) % 256]) (b := b ++ m) (i := 0) (j := b.size)
    rw [head3] at q
    exact q.trans (ByteArray.extract_append_eq_left rfl)
  · unfold splR
    rw [if_pos ho, h2, h3]
    exact ByteArray.extract_append_eq_right (by omega) (by simp)
theorem more_par {k : Int} {b m : ByteArray} (h : layE k b = 0) (hm : ¬ m.size = 0) : parE (layS k b ++ m) = 15 := by
  unfold parE
  rw [if_pos (more_ok h), (more_spl h).2.2.2, if_neg hm]
end Frm
end Go.Proofs.Ytcipdimnbleljaa
namespace Go.Proofs.Ytcipdimnbleljaa
open Go.RowKit
open Extern.Stop (cell)

theorem byteAt_left (A B : ByteArray) (i : Nat) (h : i < A.size) : byteAt (A ++ B) i = byteAt A i := by
  unfold byteAt
  rw [show (A ++ B)[i]? = A[i]? from by
    rw [getElem?_pos (A ++ B) i (by rw [ByteArray.size_append]; omega), getElem?_pos A i h, ByteArray.getElem_append_left h]]
theorem byteAt_right (A B : ByteArray) (i : Nat) (h : i < B.size) : byteAt (A ++ B) (A.size + i) = byteAt B i := by
  unfold byteAt
  rw [show (A ++ B)[A.size + i]? = B[i]? from by
    rw [getElem?_pos (A ++ B) (A.size + i) (by rw [ByteArray.size_append]; omega), getElem?_pos B i h, ByteArray.getElem_append_right (by omega)]
    congr 2
    omega]
theorem byteAt_one (n : Int) (h : 0 ≤ n ∧ n < 256) (B : ByteArray) : byteAt (strOfNums [n] ++ B) 0 = n := by
  rw [byteAt_left _ _ _ (by rw [strOfNums_size]; show 0 < 1; omega)]
  show ((UInt8.ofNat n.toNat).toNat : Int) = n
  rw [UInt8.toNat_ofNat']
  omega
theorem num_be (k : Nat) : ∀ (x : Int) (A B : ByteArray), 0 ≤ x → x < 256 ^ k → numAt (A ++ (strOfNums (be x k) ++ B)) A.size k = x := by
  induction k with
  | zero => intro x A B h0 h1; rw [numAt]; omega
  | succ k ih =>
    intro x A B h0 h1
    rw [Int.pow_succ] at h1
    rw [numAt, be, strOfNums_append, ByteArray.append_assoc, ih (x / 256) A _ (by omega) (by omega)]
    have e : byteAt (A ++ (strOfNums (be (x / 256) k) ++ (strOfNums [x % 256] ++ B))) (A.size + k) = x % 256 := by
      have hs : (A ++ strOfNums (be (x / 256) k)).size = A.size + k := by rw [ByteArray.size_append, strOfNums_size, be_length]
      rw [← ByteArray.append_assoc, ← hs]
      have := byteAt_right (A ++ strOfNums (be (x / 256) k)) (strOfNums [x % 256] ++ B) 0 (by rw [ByteArray.size_append, strOfNums_size]; show 0 < 1 + _; omega)
      rw [Nat.add_zero] at this
      rw [this]
      exact byteAt_one _ (by omega) B
    rw [e]
    omega
/-- numbers read one behind the other -/
def rdL (b : ByteArray) : Nat → List Nat → List (Int × Nat)
  | _, [] => []
  | o, k :: r => (numAt b o k, k) :: rdL b (o + k) r
theorem rdL_append (b : ByteArray) (x y : List Nat) : ∀ o, rdL b o (x ++ y) = rdL b o x ++ rdL b (o + x.sum) y := by
  induction x with
  | nil => intro o; rfl
  | cons k r ih => intro o; rw [List.cons_append, rdL, rdL, ih, List.sum_cons, List.cons_append, Nat.add_assoc]
theorem rdL_wr (ns : List (Int × Nat)) : ∀ (A : ByteArray), (∀ x ∈ ns, 0 ≤ x.1 ∧ x.1 < 256 ^ x.2) → rdL (A ++ strOfNums (wrN ns)) A.size (ns.map (·.2)) = ns := by
  induction ns with
  | nil => intro A _; rfl
  | cons x r ih =>
    intro A h
    have hx := h x (by simp)
    have e : wrN (x :: r) = be x.1 x.2 ++ wrN r := rfl
    rw [List.map_cons, rdL, e, strOfNums_append, num_be x.2 x.1 A _ hx.1 hx.2]
    have hs : (A ++ strOfNums (be x.1 x.2)).size = A.size + x.2 := by rw [ByteArray.size_append, strOfNums_size, be_length]
    rw [← ByteArray.append_assoc, ← hs, ih _ (fun y hy => h y (by simp [hy]))]
theorem be_num (k : Nat) : ∀ (b : ByteArray) (o : Nat), o + k ≤ b.size → strOfNums (be (numAt b o k) k) = b.extract o (o + k) := by
  induction k with
  | zero => intro b o h; show ByteArray.empty = _; rw [Nat.add_zero]; exact (ByteArray.extract_eq_empty_iff.2 (by omega)).symm
  | succ k ih =>
    intro b o h
    have hb := byteAt_bd b (o + k)
    rw [numAt, be, show (numAt b o k * 256 + byteAt b (o + k)) / 256 = numAt b o k by omega, show (numAt b o k * 256 + byteAt b (o + k)) % 256 = byteAt b (o + k) by omega, strOfNums_append, ih b o (by omega)]
    have e : strOfNums [byteAt b (o + k)] = b.extract (o + k) (o + (k + 1)) := by
      apply ByteArray.ext_getElem
      · rw [strOfNums_size, ByteArray.size_extract]; show 1 = _; omega
      · intro i hi hi'
        rw [strOfNums_size] at hi
        have : i = 0 := by simp at hi; omega
        subst this
        rw [ByteArray.getElem_extract]
        show UInt8.ofNat (byteAt b (o + k)).toNat = _
        rw [← byteAt_is b (o + k) (by omega)]
        simp
    rw [e]
    have := ByteArray.extract_append_extract (a := b) (i := o) (j := o + k) (k := o + (k + 1))
    rw [this]
    congr 1 <;> omega
theorem wr_rdL (ks : List Nat) : ∀ (b : ByteArray) (o : Nat), o + ks.sum ≤ b.size → strOfNums (wrN (rdL b o ks)) = b.extract o (o + ks.sum) := by
  induction ks with
  | nil => intro b o h; show ByteArray.empty = _; exact (ByteArray.extract_eq_empty_iff.2 (by simp; omega)).symm
  | cons k r ih =>
    intro b o h
    rw [List.sum_cons] at h ⊢
    have e : wrN (rdL b o (k :: r)) = be (numAt b o k) k ++ wrN (rdL b (o + k) r) := rfl
    rw [e, strOfNums_append, be_num k b o (by omega), ih b (o + k) (by omega)]
    have := ByteArray.extract_append_extract (a := b) (i := o) (j := o + k) (k := o + k + r.sum)
    rw [this]
    congr 1 <;> omega

/-! What a body reads as, as numbers. -/
theorem rdL_ones (b : ByteArray) (o n : Nat) : rdL b o (List.replicate n 1) = ones (byB b o n) := by
  induction n with
  | zero => rfl
  | succ n ih =>
    rw [List.replicate_succ', rdL_append, ih, rep_sum]
    unfold ones byB
    rw [List.range_succ, List.map_append, List.map_append]
    show _ ++ [(numAt b (o + n) 1, 1)] = _ ++ [(((b[o + n]?.getD 0).toNat : Int), 1)]
    have e : numAt b (o + n) 1 = ((b[o + n]?.getD 0).toNat : Int) := by
      show numAt b (o + n) 0 * 256 + byteAt b (o + n + 0) = _
      rw [numAt]
      unfold byteAt
      simp
    rw [e]
def marksL (l : List (Int × List UInt8)) : List (Int × Nat) := l.flatMap fun x => (x.1, 1) :: ones x.2
theorem rdL_marks (b : ByteArray) (n : Nat) : rdL b 2 (List.replicate (33 * n) 1) = marksL ((List.range n).map fun j => (numAt b (2 + 33 * j) 1, byB b (3 + 33 * j) 32)) := by
  induction n with
  | zero => rfl
  | succ n ih =>
    rw [show 33 * (n + 1) = 33 * n + 33 by omega, ← List.replicate_append_replicate, rdL_append, ih, rep_sum, List.range_succ, List.map_append]
    unfold marksL
    rw [List.flatMap_append]
    congr 1
    show (numAt b (2 + 33 * n) 1, 1) :: rdL b (2 + 33 * n + 1) (List.replicate 32 1) = _
    rw [rdL_ones, show 2 + 33 * n + 1 = 3 + 33 * n by omega]
    simp
def widL (k : Int) (n : Nat) : List Nat :=
  1 :: (if k = 1 then [1, 4, 2, 2, 2, 2, 4, 4, 4, 4, 2, 2] else if k = 2 then 1 :: List.replicate 32 1 else if k = 3 then 1 :: List.replicate (33 * n) 1 else if k = 4 then [1, 8, 8] else [1, 1, 8])
theorem widL_sum (k : Int) (b : ByteArray) (h : k = 3 → 2 ≤ b.size) : (widL k (numAt b 1 1).toNat).sum = widS k b := by
  unfold widL widS
  by_cases h1 : k = 1
  · subst h1; rfl
  · by_cases h2 : k = 2
    · subst h2; rfl
    · by_cases h3 : k = 3
      · subst h3
        have := h rfl
        simp only [show ¬ (3 : Int) = 1 by decide, show ¬ (3 : Int) = 2 by decide, if_false, if_true]
        rw [if_neg (by omega), List.sum_cons, List.sum_cons, rep_sum]
        omega
      · by_cases h4 : k = 4
        · subst h4; rfl
        · simp only [h1, h2, h3, h4, if_false]; rfl
theorem nums_dec (k : Int) (b : ByteArray) (p : Option Addr) (hk : 1 ≤ k ∧ k ≤ 5) : numsOf (decM k b p) = rdL b 0 (widL k (numAt b 1 1).toNat) := by
  unfold numsOf widL
  by_cases h1 : k = 1
  · subst h1; rfl
  · by_cases h2 : k = 2
    · subst h2
      simp only [decM, show ¬ (2 : Int) = 1 by decide, if_false, if_true, true_or]
      rw [rdL, rdL, rdL_ones]
    · by_cases h3 : k = 3
      · subst h3
        simp only [decM, show ¬ (3 : Int) = 1 by decide, show ¬ (3 : Int) = 2 by decide, if_false, if_true]
        rw [rdL, rdL, rdL_marks]
        have := numAt_bd b 1 1
        simp only [List.length_map, List.length_range, marksL]
        rw [Int.toNat_of_nonneg this.1]
      · by_cases h4 : k = 4
        · subst h4
          simp only [decM, show ¬ (4 : Int) = 1 by decide, show ¬ (4 : Int) = 2 by decide, show ¬ (4 : Int) = 3 by decide, if_false, if_true, or_true]
          rfl
        · have h5 : k = 5 := by omega
          subst h5
          simp only [decM, show ¬ (5 : Int) = 1 by decide, show ¬ (5 : Int) = 2 by decide, show ¬ (5 : Int) = 3 by decide, show ¬ (5 : Int) = 4 by decide, if_false, if_true, or_false]
          rw [rdL, rdL, rdL, rdL, rdL]
          simp

/-! Of a kind's numbers its message. -/
structure ShM (m : MV) : Prop where
  k1 : m.kind ≠ 1 → m.req = 0 ∧ m.reserve = 0 ∧ ∀ i, i < 10 → m.rq i = 0
  k2 : m.kind ≠ 2 → m.dg = dg0
  k24 : m.kind ≠ 2 → m.kind ≠ 4 → m.carrier = 0
  k3 : m.kind ≠ 3 → m.ms = []
  k4 : m.kind ≠ 4 → m.bid = 0 ∧ m.nonce = 0
  k5 : m.kind ≠ 5 → m.state = 0 ∧ m.winner = 0 ∧ m.price = 0
theorem sh_dec (k : Int) (b : ByteArray) (p : Option Addr) : ShM (decM k b p) where
  k1 h := by have h : ¬ k = 1 := h; simp [decM, h]
  k2 h := by have h : ¬ k = 2 := h; simp [decM, h]
  k24 h h' := by have h : ¬ k = 2 := h; have h' : ¬ k = 4 := h'; simp [decM, h, h']
  k3 h := by have h : ¬ k = 3 := h; simp [decM, h]
  k4 h := by have h : ¬ k = 4 := h; simp [decM, h]
  k5 h := by have h : ¬ k = 5 := h; simp [decM, h]
theorem rqZ_all {rq : Nat → Int} (h : rqZ rq = true) : ∀ i, i < 10 → rq i = 0 := by
  intro i hi
  have := List.all_eq_true.1 h i (List.mem_range.2 hi)
  simpa using this
theorem outZ_all {m : MV} (h : outZ m = true) : m.state = 0 ∧ m.winner = 0 ∧ m.price = 0 := of_decide_eq_true h
theorem dgZ_all {dg : List UInt8} (h : dgZ dg = true) : dg = dg0 := by simpa [dgZ, dg0] using h
theorem sh_may {m : MV} (h : mayB m = true) : ShM m := by
  rcases may_kind h with hk | hk | hk | hk | hk
  · obtain ⟨_, _, _, a, b, c, d, e, f⟩ := may_1 h hk
    exact ⟨fun n => absurd hk n, fun _ => dgZ_all e, fun _ _ => a, fun _ => d, fun _ => ⟨b, c⟩, fun _ => outZ_all f⟩
  · obtain ⟨_, a, b, c, d, e, f, g⟩ := may_2 h hk
    exact ⟨fun _ => ⟨a, b, rqZ_all f⟩, fun n => absurd hk n, fun n => absurd hk n, fun _ => e, fun _ => ⟨c, d⟩, fun _ => outZ_all g⟩
  · obtain ⟨_, a, b, c, d, e, f, g, i⟩ := may_3 h hk
    exact ⟨fun _ => ⟨b, c, rqZ_all f⟩, fun _ => dgZ_all g, fun _ _ => a, fun n => absurd hk n, fun _ => ⟨d, e⟩, fun _ => outZ_all i⟩
  · obtain ⟨_, _, a, b, c, d, e, f⟩ := may_4 h hk
    exact ⟨fun _ => ⟨a, b, rqZ_all d⟩, fun _ => dgZ_all e, fun _ n => absurd hk n, fun _ => c, fun n => absurd hk n, fun _ => outZ_all f⟩
  · obtain ⟨_, a, b, c, d, e, f, g, i⟩ := may_5 h hk
    exact ⟨fun _ => ⟨b, c, rqZ_all g⟩, fun _ => dgZ_all i, fun _ _ => a, fun _ => f, fun _ => ⟨d, e⟩, fun n => absurd hk n⟩
structure AlM (x y : MV) : Prop where
  kind : x.kind = y.kind
  round : x.round = y.round
  carrier : x.carrier = y.carrier
  req : x.req = y.req
  reserve : x.reserve = y.reserve
  rq : ∀ i, i < 10 → x.rq i = y.rq i
  dg : x.dg = y.dg
  ms : x.ms = y.ms
  bid : x.bid = y.bid
  nonce : x.nonce = y.nonce
  state : x.state = y.state
  winner : x.winner = y.winner
  price : x.price = y.price
theorem alB_iff (x y : MV) : alB x y = true ↔ AlM x y := by
  unfold alB
  simp only [Bool.and_eq_true, beq_iff_eq, decide_eq_true_eq, List.all_eq_true, List.mem_range]
  constructor
  · rintro ⟨a, b, c, d, e, f, g, h, i, j, k, l, m⟩
    exact ⟨a, b, c, d, e, f, g, h, i, j, k, l, m⟩
  · rintro ⟨a, b, c, d, e, f, g, h, i, j, k, l, m⟩
    exact ⟨a, b, c, d, e, f, g, h, i, j, k, l, m⟩
theorem AlM.symm {x y : MV} (h : AlM x y) : AlM y x :=
  ⟨h.kind.symm, h.round.symm, h.carrier.symm, h.req.symm, h.reserve.symm, fun i hi => (h.rq i hi).symm, h.dg.symm, h.ms.symm, h.bid.symm, h.nonce.symm, h.state.symm, h.winner.symm, h.price.symm⟩
theorem AlM.trans {x y z : MV} (h : AlM x y) (g : AlM y z) : AlM x z :=
  ⟨h.kind.trans g.kind, h.round.trans g.round, h.carrier.trans g.carrier, h.req.trans g.req, h.reserve.trans g.reserve, fun i hi => (h.rq i hi).trans (g.rq i hi), h.dg.trans g.dg, h.ms.trans g.ms, h.bid.trans g.bid, h.nonce.trans g.nonce, h.state.trans g.state, h.winner.trans g.winner, h.price.trans g.price⟩
theorem AlM.nums {x y : MV} (h : AlM x y) : numsOf x = numsOf y := by
  have e : ((List.range 10).map fun i => (x.rq i, rqW i)) = (List.range 10).map fun i => (y.rq i, rqW i) := by
    apply List.map_congr_left
    intro i hi
    rw [h.rq i (List.mem_range.1 hi)]
  unfold numsOf
  rw [h.kind, h.round, h.carrier, h.req, h.reserve, e, h.dg, h.ms, h.bid, h.nonce, h.state, h.winner, h.price]
theorem AlM.may {x y : MV} (h : AlM x y) : mayB x = mayB y := by
  have e : rqZ x.rq = rqZ y.rq := by
    unfold rqZ
    rw [Bool.eq_iff_iff]
    simp only [List.all_eq_true, List.mem_range, beq_iff_eq]
    exact ⟨fun q i hi => by rw [← h.rq i hi]; exact q i hi, fun q i hi => by rw [h.rq i hi]; exact q i hi⟩
  have e2 : ckB x.rq = ckB y.rq := by
    unfold ckB
    rw [h.rq 0 (by omega), h.rq 1 (by omega), h.rq 2 (by omega), h.rq 3 (by omega), h.rq 4 (by omega), h.rq 5 (by omega), h.rq 6 (by omega), h.rq 7 (by omega), h.rq 8 (by omega), h.rq 9 (by omega)]
  have e3 : outZ x = outZ y := by unfold outZ; rw [h.state, h.winner, h.price]
  unfold mayB
  rw [h.kind, h.round, h.carrier, h.req, h.reserve, e, e2, e3, h.dg, h.ms, h.bid, h.nonce, h.state, h.winner, h.price]
theorem ones_inj {a b : List UInt8} (h : ones a = ones b) : a = b := by
  refine (List.map_inj_right (f := fun b : UInt8 => ((b.toNat : Int), 1)) ?_).1 h
  intro x y e
  simp only [Prod.mk.injEq, and_true] at e
  exact UInt8.toNat_inj.1 (by omega)
theorem ones_length (a : List UInt8) : (ones a).length = a.length := by simp [ones]
theorem marksL_inj : ∀ (a b : List (Int × List UInt8)), (∀ x ∈ a, x.2.length = 32) → (∀ x ∈ b, x.2.length = 32) → marksL a = marksL b → a = b
  | [], [], _, _, _ => rfl
  | [], y :: s, _, _, h => by simp [marksL] at h
  | x :: r, [], _, _, h => by simp [marksL] at h
  | x :: r, y :: s, ha, hb, h => by
    unfold marksL at h
    rw [List.flatMap_cons, List.flatMap_cons, List.cons_append, List.cons_append, List.cons.injEq] at h
    have hl : (ones x.2).length = (ones y.2).length := by rw [ones_length, ones_length, ha x (by simp), hb y (by simp)]
    have h2 := List.append_inj h.2 hl
    have e1 : x.1 = y.1 := by have := h.1; simpa using this
    have e2 := ones_inj h2.1
    have e3 := marksL_inj r s (fun z hz => ha z (by simp [hz])) (fun z hz => hb z (by simp [hz])) h2.2
    obtain ⟨x1, x2⟩ := x
    obtain ⟨y1, y2⟩ := y
    simp only at e1 e2
    subst e1 e2 e3
    rfl
theorem nums_inj {x y : MV} (hk : x.kind = y.kind) (hx : ShM x) (hy : ShM y) (lx : ∀ z ∈ x.ms, z.2.length = 32) (ly : ∀ z ∈ y.ms, z.2.length = 32) (h : numsOf x = numsOf y) : AlM x y := by
  have hr : x.round = y.round := by unfold numsOf at h; rw [List.cons.injEq] at h; simpa using h.1
  have h' := h
  unfold numsOf at h'
  rw [List.cons.injEq, ← hk] at h'
  replace h' := h'.2
  have key1 : x.req = y.req ∧ x.reserve = y.reserve ∧ ∀ i, i < 10 → x.rq i = y.rq i := by
    by_cases h1 : x.kind = 1
    · rw [if_pos h1, if_pos h1] at h'
      simp only [List.cons.injEq, Prod.mk.injEq, and_true] at h'
      refine ⟨h'.1, h'.2.1, fun i hi => ?_⟩
      have := List.map_inj_left.1 h'.2.2 i (List.mem_range.2 hi)
      simpa using this
    · obtain ⟨a, b, c⟩ := hx.k1 h1
      obtain ⟨a', b', c'⟩ := hy.k1 (by rw [← hk]; exact h1)
      exact ⟨a.trans a'.symm, b.trans b'.symm, fun i hi => (c i hi).trans (c' i hi).symm⟩
  have key2 : x.dg = y.dg := by
    by_cases h1 : x.kind = 2
    · rw [if_neg (by omega), if_pos h1, if_neg (by omega), if_pos h1] at h'
      simp only [List.cons.injEq] at h'
      exact ones_inj h'.2
    · exact (hx.k2 h1).trans (hy.k2 (by rw [← hk]; exact h1)).symm
  have key3 : x.ms = y.ms := by
    by_cases h1 : x.kind = 3
    · rw [if_neg (by omega), if_neg (by omega), if_pos h1, if_neg (by omega), if_neg (by omega), if_pos h1] at h'
      simp only [List.cons.injEq] at h'
      exact marksL_inj _ _ lx ly h'.2
    · exact (hx.k3 h1).trans (hy.k3 (by rw [← hk]; exact h1)).symm
  have key4 : x.bid = y.bid ∧ x.nonce = y.nonce := by
    by_cases h1 : x.kind = 4
    · rw [if_neg (by omega), if_neg (by omega), if_neg (by omega), if_pos h1, if_neg (by omega), if_neg (by omega), if_neg (by omega), if_pos h1] at h'
      simp only [List.cons.injEq, Prod.mk.injEq, and_true] at h'
      exact h'.2
    · obtain ⟨a, b⟩ := hx.k4 h1
      obtain ⟨a', b'⟩ := hy.k4 (by rw [← hk]; exact h1)
      exact ⟨a.trans a'.symm, b.trans b'.symm⟩
  have key24 : x.carrier = y.carrier := by
    by_cases h1 : x.kind = 4
    · rw [if_neg (by omega), if_neg (by omega), if_neg (by omega), if_pos h1, if_neg (by omega), if_neg (by omega), if_neg (by omega), if_pos h1] at h'
      simp only [List.cons.injEq, Prod.mk.injEq, and_true] at h'
      exact h'.1
    · by_cases h2 : x.kind = 2
      · rw [if_neg (by omega), if_pos h2, if_neg (by omega), if_pos h2] at h'
        simp only [List.cons.injEq, Prod.mk.injEq, and_true] at h'
        exact h'.1
      · exact (hx.k24 h2 h1).trans (hy.k24 (by rw [← hk]; exact h2) (by rw [← hk]; exact h1)).symm
  have key5 : x.state = y.state ∧ x.winner = y.winner ∧ x.price = y.price := by
    by_cases h1 : x.kind = 5
    · rw [if_neg (by omega), if_neg (by omega), if_neg (by omega), if_neg (by omega), if_neg (by omega), if_neg (by omega), if_neg (by omega), if_neg (by omega)] at h'
      simp only [List.cons.injEq, Prod.mk.injEq, and_true] at h'
      exact ⟨h'.1, by have := h'.2.1; omega, h'.2.2⟩
    · obtain ⟨a, b, c⟩ := hx.k5 h1
      obtain ⟨a', b', c'⟩ := hy.k5 (by rw [← hk]; exact h1)
      exact ⟨a.trans a'.symm, b.trans b'.symm, c.trans c'.symm⟩
  exact ⟨hk, hr, key24, key1.1, key1.2.1, key1.2.2, key2, key3, key4.1, key4.2, key5.1, key5.2.1, key5.2.2⟩

/-! The two roads. -/
theorem nums_rg {m : MV} (h : mayB m = true) (hR : MsgRg m) : ∀ x ∈ numsOf m, 0 ≤ x.1 ∧ x.1 < 256 ^ x.2 := by
  have hr := may_round h
  have ho : ∀ (l : List UInt8), ∀ x ∈ ones l, 0 ≤ x.1 ∧ x.1 < 256 ^ x.2 := by
    intro l x hx
    simp only [ones, List.mem_map] at hx
    obtain ⟨b, _, rfl⟩ := hx
    have := b.toNat_lt
    exact ⟨by show (0 : Int) ≤ b.toNat; omega, by show (b.toNat : Int) < 256; omega⟩
  intro x hx
  unfold numsOf at hx
  rcases List.mem_cons.1 hx with rfl | hx
  · exact ⟨hr.1, by show m.round < 256; omega⟩
  · rcases may_kind h with hk | hk | hk | hk | hk
    · rw [if_pos hk] at hx
      obtain ⟨a, b, c, _⟩ := may_1 h hk
      rcases List.mem_cons.1 hx with rfl | hx
      · exact ⟨a.1, by show m.req < 256; omega⟩
      rcases List.mem_cons.1 hx with rfl | hx
      · exact ⟨b.1, by show m.reserve < 256 ^ 4; omega⟩
      obtain ⟨i, hi, rfl⟩ := List.mem_map.1 hx
      exact ckB_rg c i (List.mem_range.1 hi)
    · rw [if_neg (by omega), if_pos hk] at hx
      obtain ⟨a, _⟩ := may_2 h hk
      rcases List.mem_cons.1 hx with rfl | hx
      · exact ⟨a.1, by show m.carrier < 256; omega⟩
      exact ho _ x hx
    · rw [if_neg (by omega), if_neg (by omega), if_pos hk] at hx
      obtain ⟨a, _⟩ := may_3 h hk
      have hl := riseB_le8 a
      rcases List.mem_cons.1 hx with rfl | hx
      · exact ⟨by show (0 : Int) ≤ m.ms.length; omega, by show (m.ms.length : Int) < 256; omega⟩
      obtain ⟨y, hy, hx⟩ := List.mem_flatMap.1 hx
      have := riseB_all _ a y hy
      rcases List.mem_cons.1 hx with rfl | hx
      · exact ⟨this.1, by show y.1 < 256; omega⟩
      · exact ho _ x hx
    · rw [if_neg (by omega), if_neg (by omega), if_neg (by omega), if_pos hk] at hx
      obtain ⟨a, b, _⟩ := may_4 h hk
      have hb := hR.bid
      have hn := hR.nonce
      unfold U64 at hb hn
      simp only [List.mem_cons, List.not_mem_nil, or_false] at hx
      rcases hx with rfl | rfl | rfl
      · exact ⟨a.1, by show m.carrier < 256; omega⟩
      · exact ⟨hb.1, by show m.bid < 256 ^ 8; omega⟩
      · exact ⟨hn.1, by show m.nonce < 256 ^ 8; omega⟩
    · rw [if_neg (by omega), if_neg (by omega), if_neg (by omega), if_neg (by omega)] at hx
      obtain ⟨a, _⟩ := may_5 h hk
      have ha := toldB_rg a
      have hp := hR.price
      unfold U64 at hp
      simp only [List.mem_cons, List.not_mem_nil, or_false] at hx
      rcases hx with rfl | rfl | rfl
      · exact ⟨by show 0 ≤ m.state; omega, by show m.state < 256; omega⟩
      · exact ⟨by show 0 ≤ m.winner + 1; omega, by show m.winner + 1 < 256; omega⟩
      · exact ⟨hp.1, by show m.price < 256 ^ 8; omega⟩
theorem nums_widths {m : MV} (h : mayB m = true) (hd : m.dg.length = 32) (hm : ∀ x ∈ m.ms, x.2.length = 32) : (numsOf m).map (·.2) = widL m.kind m.ms.length := by
  have ho : ∀ (l : List UInt8), (ones l).map (·.2) = List.replicate l.length 1 := by
    intro l
    rw [List.eq_replicate_iff]
    simp [ones]
  have hms : ∀ (l : List (Int × List UInt8)), (∀ x ∈ l, x.2.length = 32) → (marksL l).map (·.2) = List.replicate (33 * l.length) 1 := by
    intro l
    induction l with
    | nil => intro _; rfl
    | cons y r ih =>
      intro hl
      have e : marksL (y :: r) = ((y.1, 1) :: ones y.2) ++ marksL r := rfl
      rw [e, List.map_append, ih (fun z hz => hl z (by simp [hz])), List.map_cons, ho, hl y (by simp), List.length_cons, show 33 * (r.length + 1) = (1 + 32) + 33 * r.length by omega, ← List.replicate_append_replicate, ← List.replicate_append_replicate]
      rfl
  unfold numsOf widL
  rw [List.map_cons]
  congr 1
  rcases may_kind h with hk | hk | hk | hk | hk
  · rw [if_pos hk, if_pos hk]; rfl
  · rw [if_neg (by omega), if_pos hk, if_neg (by omega), if_pos hk, List.map_cons, ho, hd]
  · rw [if_neg (by omega), if_neg (by omega), if_pos hk, if_neg (by omega), if_neg (by omega), if_pos hk, List.map_cons]
    congr 1
    exact hms _ hm
  · rw [if_neg (by omega), if_neg (by omega), if_neg (by omega), if_pos hk, if_neg (by omega), if_neg (by omega), if_neg (by omega), if_pos hk]; rfl
  · rw [if_neg (by omega), if_neg (by omega), if_neg (by omega), if_neg (by omega), if_neg (by omega), if_neg (by omega), if_neg (by omega), if_neg (by omega)]; rfl
structure Good (m : MV) : Prop where
  may : mayB m = true
  rg : MsgRg m
  dg : m.dg.length = 32
  ms : ∀ x ∈ m.ms, x.2.length = 32
theorem body_reads {m : MV} (h : Good m) : rdL (bodyS m) 0 (widL m.kind m.ms.length) = numsOf m := by
  rw [← nums_widths h.may h.dg h.ms]
  have := rdL_wr (numsOf m) ByteArray.empty (nums_rg h.may h.rg)
  rw [ByteArray.empty_append] at this
  exact this
theorem body_marks {m : MV} (h : Good m) (hk : m.kind = 3) : (numAt (bodyS m) 1 1).toNat = m.ms.length := by
  have h1 := body_reads h
  have h2 : numsOf m = (m.round, 1) :: ((m.ms.length : Int), 1) :: marksL m.ms := by unfold numsOf; rw [if_neg (by omega), if_neg (by omega), if_pos hk]; rfl
  rw [h2] at h1
  unfold widL at h1
  rw [if_neg (by omega), if_neg (by omega), if_pos hk] at h1
  simp only [rdL, List.cons.injEq, Prod.mk.injEq, and_true] at h1
  have := h1.2.1
  rw [show 0 + 1 = 1 from rfl] at this
  omega
theorem widL_any {k : Int} (h : k ≠ 3) (n n' : Nat) : widL k n = widL k n' := by unfold widL; rw [if_neg h, if_neg h]
theorem dec_body {m : MV} (h : Good m) (p : Option Addr) : AlM (decM m.kind (bodyS m) p) m := by
  have h15 : 1 ≤ m.kind ∧ m.kind ≤ 5 := by have := may_kind h.may; omega
  have hl : ∀ z ∈ (decM m.kind (bodyS m) p).ms, z.2.length = 32 := by
    intro z hz
    simp only [decM] at hz
    split at hz
    · rw [List.mem_map] at hz
      obtain ⟨j, _, rfl⟩ := hz
      exact byB_length _ _ _
    · cases hz
  refine nums_inj rfl (sh_dec _ _ _) (sh_may h.may) hl h.ms ?_
  rw [nums_dec _ _ _ h15, ← body_reads h]
  by_cases hk : m.kind = 3
  · rw [body_marks h hk]
  · rw [widL_any hk]
theorem Good.lays {m : MV} (h : Good m) : Frm.layE m.kind (bodyS m) = 0 := may_lays h.may h.dg h.ms
theorem Good.encS {m : MV} (h : Good m) : encS m = Frm.layS m.kind (bodyS m) := by unfold Go.Proofs.Ytcipdimnbleljaa.encS; rw [if_pos h.may]
theorem Good.encE {m : MV} (h : Good m) : encE m = 0 := by unfold Go.Proofs.Ytcipdimnbleljaa.encE; rw [if_pos h.may]
theorem body_wid {m : MV} (h : Good m) : widS m.kind (bodyS m) = (bodyS m).size := by
  have hl := bodyS_len m h.dg h.ms
  by_cases hk : m.kind = 3
  · have e : lenOf m = 2 + 33 * m.ms.length := by unfold lenOf; rw [if_neg (by omega), if_neg (by omega), if_pos hk]
    rw [e] at hl
    have h2 : ¬ (bodyS m).size < 2 := by omega
    unfold widS
    rw [if_neg (show ¬ m.kind = 1 by omega), if_neg (show ¬ m.kind = 2 by omega), if_pos hk, if_neg h2, body_marks h hk, hl]
  · rw [hl]
    unfold widS lenOf
    rw [if_neg hk, if_neg hk]
/-- what is laid is read back -/
theorem dec_enc {m : MV} (h : Good m) : decE (encS m) = 0 ∧ ∀ p, AlM (decR (encS m) p) m := by
  have h15 : 1 ≤ m.kind ∧ m.kind ≤ 5 := by have := may_kind h.may; omega
  have e : decE (encS m) = 0 := by
    unfold decE
    rw [h.encS, Frm.laid_parE h.lays, Frm.laid_parK h.lays, Frm.laid_parB h.lays, if_neg (by simp), if_neg (by omega), body_wid h, if_neg (by omega), if_neg (by omega), (dec_body h none).may, if_pos h.may]
  refine ⟨e, fun p => ?_⟩
  unfold decR
  rw [if_pos e, h.encS, Frm.laid_parK h.lays, Frm.laid_parB h.lays]
  exact dec_body h p
/-- what is read is laid again so -/
theorem enc_dec {s : ByteArray} (h : decE s = 0) (p : Option Addr) : encE (decR s p) = 0 ∧ encS (decR s p) = s := by
  have h0 := h
  unfold decE at h
  by_cases hE : Frm.parE s = 0
  · rw [if_neg (by rw [hE]; simp)] at h
    by_cases hk : Frm.parK s < 1 ∨ 5 < Frm.parK s
    · rw [if_pos hk] at h; omega
    · rw [if_neg hk] at h
      by_cases h1 : (Frm.parB s).size < widS (Frm.parK s) (Frm.parB s)
      · rw [if_pos h1] at h; omega
      · rw [if_neg h1] at h
        by_cases h2 : widS (Frm.parK s) (Frm.parB s) < (Frm.parB s).size
        · rw [if_pos h2] at h; omega
        · rw [if_neg h2] at h
          by_cases h3 : mayB (decM (Frm.parK s) (Frm.parB s) none) = true
          · have e : decR s p = decM (Frm.parK s) (Frm.parB s) p := by unfold decR; rw [if_pos h0]
            rw [e]
            have hm : mayB (decM (Frm.parK s) (Frm.parB s) p) = true := h3
            have hb : bodyS (decM (Frm.parK s) (Frm.parB s) p) = Frm.parB s := by
              unfold bodyS
              have hs3 : Frm.parK s = 3 → 2 ≤ (Frm.parB s).size := by
                intro hk3
                unfold widS at h1
                rw [if_neg (by omega), if_neg (by omega), if_pos hk3] at h1
                split at h1 <;> omega
              rw [nums_dec _ _ _ (by omega), wr_rdL _ _ _ (by rw [widL_sum _ _ hs3]; omega), widL_sum _ _ hs3, show 0 + widS (Frm.parK s) (Frm.parB s) = (Frm.parB s).size by omega]
              exact ByteArray.extract_zero_size
            refine ⟨by unfold encE; rw [if_pos hm], ?_⟩
            unfold encS
            rw [if_pos hm, hb]
            exact (Frm.par_back hE).2
          · rw [if_neg h3] at h; omega
  · rw [if_pos hE] at h
    exact absurd h hE
/-- two messages have the same bytes just if they are alike -/
theorem enc_same {x y : MV} (hx : Good x) (hy : Good y) : decide (encS x = encS y) = alB x y := by
  rw [Bool.eq_iff_iff, decide_eq_true_eq, alB_iff]
  constructor
  · intro e
    have h1 := (dec_enc hx).2 none
    rw [e] at h1
    exact h1.symm.trans ((dec_enc hy).2 none)
  · intro h
    rw [hx.encS, hy.encS, h.kind]
    unfold bodyS
    rw [h.nums]
/-- cut, or with more behind -/
theorem dec_cut {m : MV} (h : Good m) {n : Nat} (hn : n < (encS m).size) : decE ((encS m).extract 0 n) = 14 := by
  have hw := Frm.laid_whole h.lays
  rw [h.encS] at hn ⊢
  have := Frm.bad_all (Frm.cut_ok hw hn)
  unfold decE
  rw [this.1]
  rfl
theorem dec_more {m : MV} (h : Good m) {s : ByteArray} (hs : s.size ≠ 0) : decE (encS m ++ s) = 15 := by
  rw [h.encS]
  unfold decE
  rw [Frm.more_par h.lays hs]
  rfl
theorem enc_size {m : MV} (h : Good m) : (encS m).size = 3 + lenOf m := by
  rw [h.encS, Frm.layS_size h.lays, bodyS_len m h.dg h.ms]
end Go.Proofs.Ytcipdimnbleljaa
namespace Go.Proofs.Ytcipdimnbleljaa
open Go.RowKit
open Extern.Stop (cell)

theorem rise_map (f : Nat → List UInt8) : ∀ (l : List Nat), l.Pairwise (· < ·) → (∀ c ∈ l, c < 8) → riseB (l.map fun (c : Nat) => ((c : Int), f c)) = true
  | [], _, _ => rfl
  | [c], _, h => by
    have := h c (by simp)
    show inB (c : Int) 8 = true
    exact decide_eq_true (by omega)
  | c :: e :: r, hp, h => by
    have h1 := rise_map f (e :: r) (List.pairwise_cons.1 hp).2 (fun z hz => h z (by simp [hz]))
    have h2 := (List.pairwise_cons.1 hp).1 e (by simp)
    have h3 := h c (by simp)
    show (inB (c : Int) 8 && decide ((c : Int) < e) && riseB ((e :: r).map fun (c : Nat) => ((c : Int), f c))) = true
    rw [h1]
    simp only [Bool.and_eq_true, decide_eq_true_eq, and_true, inB]
    omega
theorem rise_draft (d : DV) : riseB (msD d 8) = true := by
  unfold msD
  refine rise_map _ _ (List.Pairwise.filter _ List.pairwise_lt_range) ?_
  intro c hc
  exact List.mem_range.1 (List.mem_filter.1 hc).1
theorem dgU_len (bs : List UInt8) (frm : Nat) : (dgU bs frm).length = 32 := dgU_length bs frm
theorem ck_draft {d : DV} (h : DraftRg d) : ckB (rqD d) = true := by
  have h2 := h.n 2 (by omega); have h3 := h.n 3 (by omega); have h4 := h.n 4 (by omega); have h5 := h.n 5 (by omega); have h6 := h.n 6 (by omega); have h7 := h.n 7 (by omega)
  unfold ckB
  rw [decide_eq_true_eq]
  have p1 : plB (rqD d 0) (rqD d 1) = true := by
    show plB (d.n 2 % 1024) (d.n 2 / 64) = true
    simp only [plB, decide_eq_true_eq]; omega
  have p2 : plB (rqD d 2) (rqD d 3) = true := by
    show plB (d.n 3 % 1024) (d.n 3 / 64) = true
    simp only [plB, decide_eq_true_eq]; omega
  have w1 : wiB (rqD d 4) (rqD d 5) = true := by
    show wiB (d.n 4 * 9) (d.n 4 * 9 + d.n 6 % 999) = true
    simp only [wiB, decide_eq_true_eq]; omega
  have w2 : wiB (rqD d 6) (rqD d 7) = true := by
    show wiB (d.n 5 * 7) (d.n 5 * 7 + d.n 7 % 999) = true
    simp only [wiB, decide_eq_true_eq]; omega
  have l1 : (decide (1 ≤ rqD d 8 ∧ rqD d 8 ≤ 1000)) = true := by
    show decide (1 ≤ 1 + d.n 6 % 1000 ∧ 1 + d.n 6 % 1000 ≤ 1000) = true
    rw [decide_eq_true_eq]; omega
  have l2 : (decide (0 ≤ rqD d 9 ∧ rqD d 9 ≤ 1000)) = true := by
    show decide (0 ≤ d.n 7 % 1001 ∧ d.n 7 % 1001 ≤ 1000) = true
    rw [decide_eq_true_eq]; omega
  unfold rqCode
  rw [p1, p2, w1, w2, l1, l2]
  rfl
theorem may_draft {d : DV} (h : DraftRg d) (p : Option Addr) (cap : Nat) : mayB (msgD d p cap) = true := by
  have hk := h.kind
  have h0 := h.n 0 (by omega); have h1 := h.n 1 (by omega); have h2 := h.n 2 (by omega)
  have b0 := h.big 0 (by omega)
  have k15 : kindD d = 1 ∨ kindD d = 2 ∨ kindD d = 3 ∨ kindD d = 4 ∨ kindD d = 5 := by unfold kindD; omega
  have z10 : ∀ f : Nat → Int, (∀ i, f i = 0) → rqZ f = true := fun f hf => by unfold rqZ; simp [hf]
  unfold mayB
  rw [Bool.and_eq_true]
  refine ⟨by show inB (d.n 0 % 16) 16 = true; exact decide_eq_true (by omega), ?_⟩
  have ek : (msgD d p cap).kind = kindD d := rfl
  rw [ek]
  rcases k15 with k | k | k | k | k
  · rw [if_pos k]
    simp only [msgD, k, if_true, show ¬ (1 : Int) = 2 by decide, show ¬ (1 : Int) = 3 by decide, show ¬ (1 : Int) = 4 by decide, show ¬ (1 : Int) = 5 by decide, if_false, or_false, Bool.and_eq_true, decide_eq_true_eq]
    refine ⟨⟨⟨⟨⟨⟨⟨⟨?_, ?_⟩, ?_⟩, trivial⟩, trivial⟩, trivial⟩, trivial⟩, ?_⟩, ?_⟩
    · exact decide_eq_true (by omega)
    · exact decide_eq_true (by omega)
    · exact ck_draft h
    · decide
    · rfl
  · rw [if_neg (by omega), if_pos k]
    simp only [msgD, k, if_true, show ¬ (2 : Int) = 1 by decide, show ¬ (2 : Int) = 3 by decide, show ¬ (2 : Int) = 4 by decide, show ¬ (2 : Int) = 5 by decide, if_false, or_false, Bool.and_eq_true, decide_eq_true_eq]
    refine ⟨⟨⟨⟨⟨⟨⟨?_, trivial⟩, trivial⟩, trivial⟩, trivial⟩, trivial⟩, ?_⟩, ?_⟩
    · exact decide_eq_true (by omega)
    · exact z10 _ fun _ => rfl
    · rfl
  · rw [if_neg (by omega), if_neg (by omega), if_pos k]
    simp only [msgD, k, if_true, show ¬ (3 : Int) = 1 by decide, show ¬ (3 : Int) = 2 by decide, show ¬ (3 : Int) = 4 by decide, show ¬ (3 : Int) = 5 by decide, if_false, or_false, Bool.and_eq_true, decide_eq_true_eq]
    refine ⟨⟨⟨⟨⟨⟨⟨⟨?_, trivial⟩, trivial⟩, trivial⟩, trivial⟩, trivial⟩, ?_⟩, ?_⟩, ?_⟩
    · exact rise_draft d
    · exact z10 _ fun _ => rfl
    · decide
    · rfl
  · rw [if_neg (by omega), if_neg (by omega), if_neg (by omega), if_pos k]
    simp only [msgD, k, if_true, show ¬ (4 : Int) = 1 by decide, show ¬ (4 : Int) = 2 by decide, show ¬ (4 : Int) = 3 by decide, show ¬ (4 : Int) = 5 by decide, if_false, or_true, Bool.and_eq_true, decide_eq_true_eq]
    refine ⟨⟨⟨⟨⟨⟨⟨?_, ?_⟩, trivial⟩, trivial⟩, trivial⟩, ?_⟩, ?_⟩, ?_⟩
    · exact decide_eq_true (by omega)
    · omega
    · exact z10 _ fun _ => rfl
    · decide
    · rfl
  · rw [if_neg (by omega), if_neg (by omega), if_neg (by omega), if_neg (by omega), if_pos k]
    simp only [msgD, k, if_true, show ¬ (5 : Int) = 1 by decide, show ¬ (5 : Int) = 2 by decide, show ¬ (5 : Int) = 3 by decide, show ¬ (5 : Int) = 4 by decide, if_false, or_false, Bool.and_eq_true, decide_eq_true_eq]
    refine ⟨⟨⟨⟨⟨⟨⟨⟨?_, trivial⟩, trivial⟩, trivial⟩, trivial⟩, trivial⟩, trivial⟩, ?_⟩, ?_⟩
    · by_cases e : d.n 1 % 3 = 0
      · rw [if_pos e, if_pos e, if_pos e]; decide
      · rw [if_neg e, if_neg e, if_neg e]
        unfold toldB
        rw [if_pos (by omega), Bool.and_eq_true, decide_eq_true_eq]
        exact ⟨decide_eq_true (by omega), by omega⟩
    · exact z10 _ fun _ => rfl
    · decide
theorem good_draft {d : DV} (h : DraftRg d) (p : Option Addr) (cap : Nat) : Good (msgD d p cap) := by
  have hk := h.kind
  have h0 := h.n 0 (by omega); have h1 := h.n 1 (by omega); have h2 := h.n 2 (by omega)
  have h3 := h.n 3 (by omega); have h4 := h.n 4 (by omega); have h5 := h.n 5 (by omega); have h6 := h.n 6 (by omega); have h7 := h.n 7 (by omega)
  have b0 := h.big 0 (by omega); have b1 := h.big 1 (by omega)
  have it : ∀ (c : Prop) [Decidable c] (x : Int), I64 x → I64 (if c then x else 0) := fun c _ x h => by split; exact h; exact rg0
  have ut : ∀ (c : Prop) [Decidable c] (x : Int), U64 x → U64 (if c then x else 0) := fun c _ x h => by split; exact h; exact ug0
  have hms : ∀ x ∈ (msgD d p cap).ms, ∃ c : Nat, c < 8 ∧ x = ((c : Int), dgU d.bs c) := by
    intro x hx
    simp only [msgD] at hx
    split at hx
    · unfold msD at hx
      obtain ⟨c, hc, rfl⟩ := List.mem_map.1 hx
      exact ⟨c, List.mem_range.1 (List.mem_filter.1 hc).1, rfl⟩
    · cases hx
  refine ⟨may_draft h p cap, ⟨?_, ?_, it _ _ ?_, it _ _ ?_, it _ _ ?_, ?_, ?_, ut _ _ ?_, ut _ _ ?_, it _ _ ?_, it _ _ ?_, ut _ _ ?_⟩, ?_, ?_⟩
  · show I64 (kindD d); unfold kindD I64; omega
  · show I64 (d.n 0 % 16); unfold I64; omega
  · unfold I64; omega
  · unfold I64; omega
  · unfold I64; omega
  · intro i hi
    refine it _ _ ?_
    match i, hi with
    | 0, _ => show I64 (d.n 2 % 1024); unfold I64; omega
    | 1, _ => show I64 (d.n 2 / 64); unfold I64; omega
    | 2, _ => show I64 (d.n 3 % 1024); unfold I64; omega
    | 3, _ => show I64 (d.n 3 / 64); unfold I64; omega
    | 4, _ => show I64 (d.n 4 * 9); unfold I64; omega
    | 5, _ => show I64 (d.n 4 * 9 + d.n 6 % 999); unfold I64; omega
    | 6, _ => show I64 (d.n 5 * 7); unfold I64; omega
    | 7, _ => show I64 (d.n 5 * 7 + d.n 7 % 999); unfold I64; omega
    | 8, _ => show I64 (1 + d.n 6 % 1000); unfold I64; omega
    | 9, _ => show I64 (d.n 7 % 1001); unfold I64; omega
    | i + 10, hi => exact absurd hi (by omega)
  · intro x hx
    obtain ⟨c, hc, rfl⟩ := hms x hx
    show I64 (c : Int)
    unfold I64; omega
  · unfold U64; omega
  · unfold U64; omega
  · unfold I64; split <;> omega
  · unfold I64; split <;> omega
  · unfold U64; split <;> omega
  · show (if kindD d = 2 then dgU d.bs 0 else dg0).length = 32
    split
    · exact dgU_length _ _
    · decide
  · intro x hx
    obtain ⟨c, _, rfl⟩ := hms x hx
    exact dgU_length _ _
end Go.Proofs.Ytcipdimnbleljaa
