/-
  Layer 13: a draft of vehicles and requests, and acts, as a row hands them over.
-/
import Derived.Test.YtdmnoogppmckaaaGreatPs
import Derived.Test.YtdmnoogppmckaaaGreatOpn
namespace Go.Proofs.YtdmnoogppmckaaaGreat
open Go.ChangeShapes Go.WideShapes Go.ChangeAt Go.RowKit

section
variable {H : Type} {enc : TypeId × Value → H} {W : World} {base : Nat} {v : Value} {d : DataW H} {q : List MemPlace}
set_option maxRecDepth 100000 in
theorem arg_draft13 (hv : Value.okWide Tryz.prog W .any base 38 v) (h : DataW.Trod enc Tryz.prog W 0 (fun _ => true) true 38 v d q) :
    ∃ (p : Option Addr) (c : Nat) (B : List Int) (n wd k f : Int), DrA W p B n wd ∧ (0 ≤ f ∧ f < 256) ∧ v = .agg (ptC p c B n wd k f) := by
  obtain ⟨C, rfl, hsz0⟩ := okWide_struct Tryz.underlying38 hv
  have c5 : Tryz.prog.cellsOf 38 = 5 := by kernel_rfl
  have c4 : Tryz.prog.cellsOf 36 = 4 := by kernel_rfl
  have c8 : Tryz.prog.cellsOf 5 = 1 := by kernel_rfl
  obtain ⟨fuel, hf⟩ := h
  obtain ⟨n0, y0, h0⟩ := fld_of Tryz.underlying38 hf 0 _ rfl
  obtain ⟨f, ef, wf⟩ := fld_int Tryz.underlying38 hf 1 _ rfl c8 Tryz.underlying5
  obtain ⟨p, c, B, n, wd, k, hA, hr⟩ := open_dr h0
  have e : C = (ptC p c B n wd k f).toList.toArray := agg_eq (by rw [hsz0, c5]; rfl) (fun j v hj => by
    match j with
    | 0 => cases hj; exact part_at (hr 0 _ rfl)
    | 1 => cases hj; exact part_at (hr 1 _ rfl)
    | 2 => cases hj; exact part_at (hr 2 _ rfl)
    | 3 => cases hj; exact part_at (hr 3 _ rfl)
    | 4 => cases hj; exact ef
    | j + 5 => simp [ptC] at hj)
  exact ⟨p, c, B, n, wd, k, f, hA, u8_of wf, by rw [e]⟩
set_option maxRecDepth 100000 in
theorem open_act {w : World} {fuel : Nat} {held : Bool} {cs : List Value} {x : DataW H × List MemPlace} (h : DataW.trod enc Tryz.prog w base (fun _ => true) held fuel 64 cs = some x) : ∃ s : Int × Int, ((0 ≤ s.1 ∧ s.1 < 256) ∧ 0 ≤ s.2 ∧ s.2 < 256) ∧ ∀ (j : Nat) (v : Value), (acV s)[j]? = some v → cs[j]? = some v := by
  have c8 : Tryz.prog.cellsOf 5 = 1 := by kernel_rfl
  obtain ⟨a, ea, wa⟩ := fld_int Tryz.underlying64 h 0 _ rfl c8 Tryz.underlying5
  obtain ⟨b, eb, wb⟩ := fld_int Tryz.underlying64 h 1 _ rfl c8 Tryz.underlying5
  refine ⟨(a, b), ⟨u8_of wa, u8_of wb⟩, fun j v hj => ?_⟩
  match j with
  | 0 => cases hj; exact ea
  | 1 => cases hj; exact eb
  | j + 2 => simp [acV] at hj
set_option maxRecDepth 100000 in
theorem arg_acts (hv : Value.okWide Tryz.prog W .any base 39 v) (h : DataW.Trod enc Tryz.prog W 0 (fun _ => true) true 39 v d q) :
    ∃ (p : Option Addr) (L : List (Int × Int)) (cap : Nat), v = .slice p L.length cap ∧ Els W p 2 ((L.take 30).map acV) ∧ L.length ≤ 9223372036854775807 ∧ AcRg L := by
  obtain ⟨a, len, cap0, rfl⟩ := okWide_slice Tryz.underlying39 hv
  obtain ⟨fuel, hf⟩ := h
  obtain ⟨p, L, cap, e, h1, h2, h3, h4⟩ := open_rows (n := 2) ((0, 0) : Int × Int) acV _ (fun _ => rfl) Tryz.underlying39 (by kernel_rfl) (fun _ _ _ h => open_act h) hf
  have h5 := h1.take 30 (by omega)
  rw [← List.map_take] at h5
  exact ⟨p, L, cap, by simpa [Value.cells] using e, h5, by omega, h4⟩
end
end Go.Proofs.YtdmnoogppmckaaaGreat
