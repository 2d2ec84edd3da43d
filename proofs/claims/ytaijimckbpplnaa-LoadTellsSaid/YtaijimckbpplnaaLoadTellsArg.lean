/-
  'LoadTells' at its arguments as the row hands them over.
-/
import Derived.Test.YtaijimckbpplnaaLt
import Derived.Test.YtaijimckbpplnaaOpn
namespace Go.Proofs.Ytaijimckbpplnaa
open Go.ChangeShapes Go.WideShapes Go.ChangeAt Go.RowKit

section
variable {H : Type} {enc : TypeId × Value → H} {W : World} {base : Nat} {v : Value} {d : DataW H} {q : List MemPlace}
set_option maxRecDepth 100000 in
/-- the cells of what is drawn, opened -/
theorem open_dw {w : World} {fuel : Nat} {held : Bool} {cs : List Value} {x : DataW H × List MemPlace} (h : DataW.trod enc Try.prog w base (fun _ => true) held fuel 28 cs = some x) :
    ∃ (p p' ps : Option Addr) (c c' cc : Nat) (ns B : List Int) (S : List (Int × Int)) (cp a b e : Int),
      (Els w p 1 ((ns.take 12).map u16V) ∧ ns.length ≤ 9223372036854775807 ∧ ∀ n ∈ ns, 0 ≤ n ∧ n < 65536) ∧ (Els w p' 1 ((B.take 12).map u8C) ∧ B.length ≤ 9223372036854775807 ∧ ∀ n ∈ B, 0 ≤ n ∧ n < 256) ∧
      (Els w ps 2 ((S.take 20).map stV) ∧ (S.length ≤ cc ∧ cc ≤ 9223372036854775807) ∧ ∀ s ∈ S, wf64 s.1) ∧ ((0 ≤ cp ∧ cp < 65536) ∧ (0 ≤ a ∧ a < 256) ∧ (0 ≤ b ∧ b < 256) ∧ (0 ≤ e ∧ e < 256)) ∧
      ∀ (j : Nat) (v : Value), (dwC p p' ps ns.length c B.length c' S.length cc cp a b e).toList[j]? = some v → cs[j]? = some v := by
  have c8 : Try.prog.cellsOf 5 = 1 := by kernel_rfl
  have c16 : Try.prog.cellsOf 24 = 1 := by kernel_rfl
  have cS : Try.prog.cellsOf 23 = 1 := by kernel_rfl
  have cS2 : Try.prog.cellsOf 22 = 1 := by kernel_rfl
  have cS3 : Try.prog.cellsOf 26 = 1 := by kernel_rfl
  obtain ⟨n0, y0, h0⟩ := fld_of Try.underlying28 h 0 _ rfl
  obtain ⟨n1, y1, h1⟩ := fld_of Try.underlying28 h 1 _ rfl
  obtain ⟨cp, ecp, wcp⟩ := fld_int Try.underlying28 h 2 _ rfl c16 Try.underlying24
  obtain ⟨n3, y3, h3⟩ := fld_of Try.underlying28 h 3 _ rfl
  obtain ⟨n4, y4, h4⟩ := fld_of Try.underlying28 h 4 _ rfl
  obtain ⟨p, ns, c, e0, hN, hnc, hcm, hnr⟩ := open_rows (n := 1) (0 : Int) u16V (fun n => 0 ≤ n ∧ n < 65536) (fun _ => rfl) Try.underlying22 c16 (fun fuel cs x h => (by
    obtain ⟨z, e, _, wz⟩ := DataW.trod_int Try.underlying24 h
    exact ⟨z, u16_of wz, fun j v hj => by
      match j with
      | 0 => cases hj; rw [e]; rfl
      | j + 1 => simp [u16V] at hj⟩)) h0
  obtain ⟨p', B, c', e1, hB, hbc, hcm', hbr⟩ := open_rows (n := 1) (0 : Int) u8C (fun n => 0 ≤ n ∧ n < 256) (fun _ => rfl) Try.underlying23 c8 (fun fuel cs x h => (by
    obtain ⟨z, e, _, wz⟩ := DataW.trod_int Try.underlying5 h
    exact ⟨z, u8_of wz, fun j v hj => by
      match j with
      | 0 => cases hj; rw [e]; rfl
      | j + 1 => simp [u8C] at hj⟩)) h1
  obtain ⟨ps, S, cc, e4, hS, hsc, hscm, hsw⟩ := open_rows (n := 2) ((0, 0) : Int × Int) stV _ (fun _ => rfl) Try.underlying26 (by kernel_rfl) (fun _ _ _ h => open_stop h) h4
  obtain ⟨N, hN3⟩ := open_ints Try.underlying25 Try.underlying5 c8 h3
  have k0 : cs[0]? = some (.slice p ns.length c) := by
    have e2 : (cs.drop 0).take (Try.prog.cellsOf 22) = [.slice p ns.length c] := e0
    rw [cS2] at e2
    exact take1 e2
  have k1 : cs[1]? = some (.slice p' B.length c') := by
    have e2 : (cs.drop 1).take (Try.prog.cellsOf 23) = [.slice p' B.length c'] := e1
    rw [cS] at e2
    exact take1 e2
  have k6 : cs[6]? = some (.slice ps S.length cc) := by
    have e2 : (cs.drop 6).take (Try.prog.cellsOf 26) = [.slice ps S.length cc] := e4
    rw [cS3] at e2
    exact take1 e2
  have k3 := part_at (hN3 0 (by omega)).1
  have k4 := part_at (hN3 1 (by omega)).1
  have k5 := part_at (hN3 2 (by omega)).1
  have hN' := hN.take 12 (by omega)
  have hB' := hB.take 12 (by omega)
  have hS' := hS.take 20 (by omega)
  rw [← List.map_take] at hN' hB' hS'
  refine ⟨p, p', ps, c, c', cc, ns, B, S, cp, N 0, N 1, N 2, ⟨hN', by omega, hnr⟩, ⟨hB', by omega, hbr⟩, ⟨hS', ⟨hsc, hscm⟩, fun s hs => by have := (hsw s hs).1; unfold W64 at this; unfold wf64; omega⟩,
    ⟨u16_of wcp, u8_of (hN3 0 (by omega)).2, u8_of (hN3 1 (by omega)).2, u8_of (hN3 2 (by omega)).2⟩, fun j v hj => ?_⟩
  match j with
  | 0 => cases hj; exact k0
  | 1 => cases hj; exact k1
  | 2 => cases hj; exact ecp
  | 3 => cases hj; exact k3
  | 4 => cases hj; exact k4
  | 5 => cases hj; exact k5
  | 6 => cases hj; exact k6
  | j + 7 => simp [dwC] at hj
end
set_option maxRecDepth 100000 in
theorem LoadTells_calls {H : Type} {enc : TypeId × Value → H} {W : World} {base : Nat} {v0 v1 v2 : Value} {d0 d1 d2 : DataW H} {p0 p1 p2 : List MemPlace}
    (hv0 : Value.okWide Try.prog W .any base 28 v0) (h0 : DataW.Trod enc Try.prog W 0 (fun _ => true) true 28 v0 d0 p0)
    (hv1 : Value.okWide Try.prog W .any base 32 v1) (h1 : DataW.Trod enc Try.prog W 0 (fun _ => true) true 32 v1 d1 p1)
    (hv2 : Value.okWide Try.prog W .any base 3 v2) (h2 : DataW.Trod enc Try.prog W 0 (fun _ => true) true 3 v2 d2 p2) :
    Calls Try.prog 3 #[v0, v1, v2] W fun e w' => e = .returned (.bool true) ∧ Below W.heap.size W w' := by
  obtain ⟨C, rfl, hsz0⟩ := okWide_struct Try.underlying28 hv0
  have c7 : Try.prog.cellsOf 28 = 7 := by kernel_rfl
  obtain ⟨fuel, hf⟩ := h0
  obtain ⟨p, p', ps, c, c', cc, ns, B, S, cp, a, b, e, ⟨hN, hnb, hnr⟩, ⟨hB, hbb, hbr⟩, ⟨hS, hSc, hSw⟩, ⟨hcp, ha, hb, he⟩, hr⟩ := open_dw hf
  have eC : C = (dwC p p' ps ns.length c B.length c' S.length cc cp a b e).toList.toArray := agg_eq (by rw [hsz0, c7]; rfl) hr
  obtain ⟨q, _, rfl⟩ := arg_ve hv1 h1
  obtain ⟨a2, rfl, _, _, w2⟩ := open_int Try.underlying3 hv2 h2
  rw [eC, Array.toArray_toList]
  exact tells_calls p p' ps c c' cc ns B S cp a b e (q 0) (q 1) (q 2) (q 3) (q 4) a2 W hN hnb hnr hB hbb hbr hS hSc hSw hcp ha hb he
end Go.Proofs.Ytaijimckbpplnaa
