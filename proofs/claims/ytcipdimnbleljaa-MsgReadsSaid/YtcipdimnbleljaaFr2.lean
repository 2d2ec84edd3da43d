/-
  Layer 17 (frame), second part: the program's Split, Parse; the reference's Parse.
-/
import Derived.Test.YtcipdimnbleljaaFrame
import Derived.Test.YtcipdimnbleljaaQuiet
namespace Go.Proofs.Ytcipdimnbleljaa
open Go.RowKit Frm

set_option maxHeartbeats 400000 in
theorem size_calls (a b c : Int) (w : World) (hb : 0 ≤ b ∧ b < 256) (hc : 0 ≤ c ∧ c < 256) :
    Calls Try.prog 58 #[.agg #[.int .u8 a, .int .u8 b, .int .u8 c]] w fun e w' => e = .returned (.int .i64 (256 * b + c)) ∧ Below w.heap.size w w' := by
  have h := or_i64_byte b c hb hc
  have h2 : b * 256 + c = 256 * b + c := by omega
  rw [h2] at h
  clear h2
  go_enter Try.func58, Try.ntmps58
  go_wp2
  go_ret
  exact ⟨rfl, (Below.refl _ _).alloc (Nat.le_refl _) _⟩

set_option maxHeartbeats 400000 in
theorem split_calls (s : ByteArray) (w : World) (hs : s.size ≤ maxLen) :
    Calls Try.prog 44 #[.string s] w fun e w' => e = .returned (.tuple #[.int .i64 (splK s), .string (splB s), .string (splR s), .int .i64 (splE s)]) ∧ Below w.heap.size w w' := by
  have hs' := hs
  unfold maxLen at hs
  by_cases h3 : s.size < 3
  · have e0 : ok s = false := by simp [ok]; omega
    have e1 : splE s = 14 := by simp [splE, e0]
    have e2 : splK s = 0 := by simp [splK, e0]
    have e3 : splB s = ByteArray.empty := by simp [splB, e0]
    have e4 : splR s = ByteArray.empty := by simp [splR, e0]
    rw [e1, e2, e3, e4]
    clear e0 e1 e2 e3 e4
    go_enter Try.func44, Try.ntmps44
    go_wp2
    exact bodyPost_ret (v := .tuple #[.int .i64 0, .string ByteArray.empty, .string ByteArray.empty, .int .i64 14]) (by simp [results, Try.results44, go_sem]; rfl) rfl ⟨rfl, (Below.refl _ _).alloc (Nat.le_refl _) _⟩
  · have b0 : (0 : Int) ≤ s[0].toNat ∧ (s[0].toNat : Int) < 256 := by have := s[0].toNat_lt; omega
    have b1 : (0 : Int) ≤ s[1].toNat ∧ (s[1].toNat : Int) < 256 := by have := s[1].toNat_lt; omega
    have b2 : (0 : Int) ≤ s[2].toNat ∧ (s[2].toNat : Int) < 256 := by have := s[2].toNat_lt; omega
    have el : len s = 256 * s[1].toNat + s[2].toNat := by simp [len, show 3 ≤ s.size by omega]
    have hcp := fun ty => run_copy_string_new (P := Try.prog) w 26 9 ty 5 3 s #[.int .u8 0, .int .u8 0, .int .u8 0] 108 Try.underlying26 (by kernel_rfl) (by simp; omega)
    simp only [List.size_toArray, List.length_cons, List.length_nil, Nat.reduceAdd, take3 s (by omega)] at hcp
    by_cases h4 : s.size < 3 + len s
    · have e0 : ok s = false := by simp [ok]; omega
      have e1 : splE s = 14 := by simp [splE, e0]
      have e2 : splK s = 0 := by simp [splK, e0]
      have e3 : splB s = ByteArray.empty := by simp [splB, e0]
      have e4 : splR s = ByteArray.empty := by simp [splR, e0]
      rw [e1, e2, e3, e4]
      have h5 : (s.size : Int) - 3 < 256 * s[1].toNat + s[2].toNat := by omega
      clear e0 e1 e2 e3 e4 el h4
      go_enter Try.func44, Try.ntmps44
      go_wp2_with fail
      refine (size_calls _ _ _ _ b1 b2).mono ?_
      rintro e w1 ⟨rfl, hb⟩
      go_wp2
      exact bodyPost_ret (v := .tuple #[.int .i64 0, .string ByteArray.empty, .string ByteArray.empty, .int .i64 14]) (by simp [results, Try.results44, go_sem]; rfl) rfl ⟨rfl, ((Below.refl _ _).alloc (Nat.le_refl _) _).trans (hb.mono (by simp))⟩
    · have e0 : ok s = true := by simp [ok]; omega
      have e1 : splE s = 0 := by simp [splE, e0]
      have e2 : splK s = s[0].toNat := by simp [splK, e0]
      have e3 : splB s = s.extract 3 (3 + len s) := by simp [splB, e0]
      have e4 : splR s = s.extract (3 + len s) s.size := by simp [splR, e0]
      rw [e1, e2, e3, e4, el]
      have h6 : 3 + (256 * (s[1].toNat : Int) + s[2].toNat) ≤ s.size := by omega
      have h5 : ¬ (s.size : Int) - 3 < 256 * s[1].toNat + s[2].toNat := by omega
      clear e0 e1 e2 e3 e4 el h4
      go_enter Try.func44, Try.ntmps44
      go_wp2_with fail
      refine (size_calls _ _ _ _ b1 b2).mono ?_
      rintro e w1 ⟨rfl, hb⟩
      go_wp2
      have hm : Mod (fun _ => False) (w.alloc (.cells #[.int .u8 s[0].toNat, .int .u8 s[1].toNat, .int .u8 s[2].toNat] 108)) w1 := (Mod.refl _ _).after hb
      have hc0 : ∀ x : Later (fun _ => False) (w.alloc (.cells #[.int .u8 s[0].toNat, .int .u8 s[1].toNat, .int .u8 s[2].toNat] 108)), x.val.cell? ⟨w.heap.size, 0, none⟩ = some (.int .u8 s[0].toNat) := fun x => x.cell (by simp) (by simp)
      have hc1 : ∀ x : Later (fun _ => False) (w.alloc (.cells #[.int .u8 s[0].toNat, .int .u8 s[1].toNat, .int .u8 s[2].toNat] 108)), x.val.cell? ⟨w.heap.size, 1, none⟩ = some (.int .u8 s[1].toNat) := fun x => x.cell (by simp) (by simp)
      have hc2 : ∀ x : Later (fun _ => False) (w.alloc (.cells #[.int .u8 s[0].toNat, .int .u8 s[1].toNat, .int .u8 s[2].toNat] 108)), x.val.cell? ⟨w.heap.size, 2, none⟩ = some (.int .u8 s[2].toNat) := fun x => x.cell (by simp) (by simp)
      refine wp_region_later hm (by kernel_rfl) (by kernel_rfl) ?_
      repeat (go_big_quiet_step ((go_at_call 58; exact Calls.later (size_calls _ _ _ _ b1 b2))))
      refine wpQuiet_nil ?_
      rintro _ ⟨x, rfl⟩
      go_wp2
      have q3 : (s.extract 3 s.size).extract 0 (256 * s[1].toNat + s[2].toNat) = s.extract 3 (3 + (256 * s[1].toNat + s[2].toNat)) := by
        rw [ByteArray.extract_extract]; congr 1; omega
      have q4 : (s.extract 3 s.size).extract (256 * s[1].toNat + s[2].toNat) (s.size - 3) = s.extract (3 + (256 * s[1].toNat + s[2].toNat)) s.size := by
        rw [ByteArray.extract_extract]; congr 1; omega
      exact bodyPost_ret (by simp [results, Try.results44, go_sem]; exact rfl) rfl ⟨by rw [q3, q4], ((Below.refl _ _).alloc (Nat.le_refl _) _).trans (x.mod.below (by simp) (fun _ h => h.elim))⟩

namespace Frm
/-- the whole text is one frame -/
def parE (s : ByteArray) : Int := if ok s = true then (if (splR s).size = 0 then 0 else 15) else 14
def parK (s : ByteArray) : Int := if parE s = 0 then splK s else 0
def parB (s : ByteArray) : ByteArray := if parE s = 0 then splB s else ByteArray.empty
end Frm

set_option maxHeartbeats 400000 in
theorem parse_calls (s : ByteArray) (w : World) (hs : s.size ≤ maxLen) :
    Calls Try.prog 30 #[.string s] w fun e w' => e = .returned (.tuple #[.int .i64 (parK s), .string (parB s), .int .i64 (parE s)]) ∧ Below w.heap.size w w' := by
  have hsp := Lib.hid (split_calls s w hs)
  by_cases h0 : ok s = true
  · have e1 : splE s = 0 := by simp [splE, h0]
    rw [e1] at hsp
    by_cases h1 : (splR s).size = 0
    · have e2 : parE s = 0 := by simp [parE, h0, h1]
      have e3 : parK s = splK s := by simp [parK, e2]
      have e4 : parB s = splB s := by simp [parB, e2]
      rw [e2, e3, e4]
      have h2 : (splR s).toList = [] := toList_nil h1
      clear e1 e2 e3 e4 h0 h1
      go_enter Try.func30, Try.ntmps30
      go_wp2_with fail
      refine hsp.out.mono ?_
      rintro e w1 ⟨rfl, hb⟩
      go_wp2
      go_ret3
      exact ⟨rfl, hb⟩
    · have e2 : parE s = 15 := by simp [parE, h0, h1]
      have e3 : parK s = 0 := by simp [parK, e2]
      have e4 : parB s = ByteArray.empty := by simp [parB, e2]
      rw [e2, e3, e4]
      have h2 : (splR s).toList.isEmpty = false := toList_cons h1
      clear e1 e2 e3 e4 h0 h1
      go_enter Try.func30, Try.ntmps30
      go_wp2_with fail
      refine hsp.out.mono ?_
      rintro e w1 ⟨rfl, hb⟩
      go_wp2
      go_ret3
      exact ⟨rfl, hb⟩
  · have e1 : splE s = 14 := by simp [splE, h0]
    have e2 : parE s = 14 := by simp [parE, h0]
    have e3 : parK s = 0 := by simp [parK, e2]
    have e4 : parB s = ByteArray.empty := by simp [parB, e2]
    have e5 : splK s = 0 := by simp [splK, h0]
    have e6 : splB s = ByteArray.empty := by simp [splB, h0]
    rw [e1, e5, e6] at hsp
    rw [e2, e3, e4]
    clear e1 e2 e3 e4 e5 e6 h0
    go_enter Try.func30, Try.ntmps30
    go_wp2_with fail
    refine hsp.out.mono ?_
    rintro e w1 ⟨rfl, hb⟩
    go_wp2
    go_ret3
    exact ⟨rfl, hb⟩


end Go.Proofs.Ytcipdimnbleljaa
