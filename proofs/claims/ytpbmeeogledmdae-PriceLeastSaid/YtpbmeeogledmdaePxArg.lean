/-
  Layer 14: a draft of two vehicles and requests, and a row of bytes, as a row hands them over.
-/
import Derived.Test.YtpbmeeogledmdaeMk14
import Derived.Test.YtpbmeeogledmdaeOpn
namespace Go.Proofs.Ytpbmeeogledmdae
open Go.ChangeShapes Go.WideShapes Go.ChangeAt Go.RowKit

section
variable {H : Type} {enc : TypeId × Value → H} {W : World} {base : Nat} {v : Value} {d : DataW H} {q : List MemPlace}
set_option maxRecDepth 100000 in
theorem arg_draft14 (hv : Value.okWide Try.prog W .any base 26 v) (h : DataW.Trod enc Try.prog W 0 (fun _ => true) true 26 v d q) :
    ∃ (p : Option Addr) (c : Nat) (B : List Int) (n wd k m : Int), DrA W p B n wd ∧ (0 ≤ m ∧ m < 256) ∧ v = .agg (ppC p c B n wd k m) := by
  obtain ⟨C, rfl, hsz0⟩ := okWide_struct Try.underlying26 hv
  have c5 : Try.prog.cellsOf 26 = 5 := by kernel_rfl
  have c4 : Try.prog.cellsOf 24 = 4 := by kernel_rfl
  have c8 : Try.prog.cellsOf 5 = 1 := by kernel_rfl
  obtain ⟨fuel, hf⟩ := h
  obtain ⟨n0, y0, h0⟩ := fld_of Try.underlying26 hf 0 _ rfl
  obtain ⟨m, ef, wf⟩ := fld_int Try.underlying26 hf 1 _ rfl c8 Try.underlying5
  obtain ⟨p, c, B, n, wd, k, hA, hr⟩ := open_dr h0
  have e : C = (ppC p c B n wd k m).toList.toArray := agg_eq (by rw [hsz0, c5]; rfl) (fun j v hj => by
    match j with
    | 0 => cases hj; exact part_at (hr 0 _ rfl)
    | 1 => cases hj; exact part_at (hr 1 _ rfl)
    | 2 => cases hj; exact part_at (hr 2 _ rfl)
    | 3 => cases hj; exact part_at (hr 3 _ rfl)
    | 4 => cases hj; exact ef
    | j + 5 => simp [ppC] at hj)
  exact ⟨p, c, B, n, wd, k, m, hA, u8_of wf, by rw [e]⟩
set_option maxRecDepth 100000 in
theorem arg_puts (hv : Value.okWide Try.prog W .any base 22 v) (h : DataW.Trod enc Try.prog W 0 (fun _ => true) true 22 v d q) :
    ∃ (p : Option Addr) (L : List Int) (cap : Nat), v = .slice p L.length cap ∧ Els W p 1 ((L.take 8).map u8V) ∧ L.length ≤ 9223372036854775807 ∧ ∀ a ∈ L, 0 ≤ a ∧ a < 256 := by
  obtain ⟨a, len, cap0, rfl⟩ := okWide_slice Try.underlying22 hv
  obtain ⟨fuel, hf⟩ := h
  obtain ⟨p, L, cap, e, h1, h2, h3, h4⟩ := open_rows (n := 1) (0 : Int) u8V (fun b => 0 ≤ b ∧ b < 256) (fun _ => rfl) Try.underlying22 (by kernel_rfl) (fun _ _ _ h => open_u8 h) hf
  have h5 := h1.take 8 (by omega)
  rw [← List.map_take] at h5
  exact ⟨p, L, cap, by simpa [Value.cells] using e, h5, by omega, h4⟩
end
end Go.Proofs.Ytpbmeeogledmdae
