/-
  Drafts (layer 7): Parts; the document's Without (layer 6); a draft that is handed in.
-/
import Derived.Test.YtpbmeeogledmdaeDq
namespace Go.Proofs.Ytpbmeeogledmdae
open Go.ChangeShapes Go.WideShapes Go.ChangeAt Go.RowKit

/-- a draft's bytes, where nobody draws yet -/
structure DrA (w : World) (p : Option Addr) (B : List Int) (n wd : Int) : Prop where
  els : ∀ i b, B[i]? = some b → ∃ a, p = some a ∧ w.cell? (a.add i) = some (.int .u8 b)
  rng : ∀ b ∈ B, 0 ≤ b ∧ b < 256
  len : B.length ≤ 9223372036854775807
  nb : 0 ≤ n ∧ n < 256
  wb : 0 ≤ wd ∧ wd < 256
theorem DrA.below {w w' : World} {p : Option Addr} {B : List Int} {n wd : Int} (h : DrA w p B n wd) (hb : Below w.heap.size w w') : DrA w' p B n wd :=
  ⟨fun i b hb2 => by
    obtain ⟨a, ha, hc⟩ := h.els i b hb2
    exact ⟨a, ha, (hb.cell (World.block_lt_of_cell? _ _ hc)).trans hc⟩, h.rng, h.len, h.nb, h.wb⟩
theorem DrA.box {w : World} {p : Option Addr} {B : List Int} {n wd : Int} (h : DrA w p B n wd) (c : Nat) (k : Int) : DrS (w.alloc (.cells (drC p c B n wd k) 24)) w.heap.size p c B n wd k :=
  ⟨Blk.new _ _ _, fun i b hb => by
    obtain ⟨a, ha, hc⟩ := h.els i b hb
    exact ⟨a, ha, by have := World.block_lt_of_cell? _ _ hc; rw [add_block] at this; omega, cellA _ hc⟩, h.rng, h.len, h.nb, h.wb⟩
theorem res_ctt {P : Program} {fn : Func} {p q r : Tmp} {ty : TypeId} (h : fn.results = #[.cell p ty, .tmp q, .tmp r]) {tmps : Array Value} {w : World} {g : Nat} {v : Value}
    (hp : tmps.getD p undef = .pointer (some ⟨g, 0, none⟩)) (hrun : (loadVar ty ⟨g, 0, none⟩).run P w = .ok v w) :
    (results fn tmps).run P w = .ok (.tuple #[v, tmps.getD q undef, tmps.getD r undef]) w := by
  have hp' : tmps[p]?.getD undef = .pointer (some ⟨g, 0, none⟩) := by simpa using hp
  simp [results, h, hp', asAddr, hrun]
/-- how many requests a draft has -/
def dpN (n : Int) : Nat := (n % 7).toNat
def dpT (B : List Int) (n wd : Int) : List Rq := drT B wd 0 (dpN n)
def dpV (B : List Int) (n : Int) : Ve := drV B (8 * (dpN n : Int))
def dpL (B : List Int) (n : Int) : List (Int × Int) := drRt B (8 * (dpN n : Int) + 5) 0 (dpN n)
def DpPost (w : World) (B : List Int) (n wd : Int) (e : Ending) (w' : World) : Prop :=
  (∃ q d q' d', e = .returned (.tuple #[.agg (veR (dpV B n)).toArray, .slice q (dpL B n).length d, .slice q' (dpT B n wd).length d']) ∧ ((dpL B n).length ≤ d ∧ d ≤ 9223372036854775807) ∧ ((dpT B n wd).length ≤ d' ∧ d' ≤ 9223372036854775807) ∧
    Els w' q 2 ((dpL B n).map stV) ∧ Els w' q' 10 ((dpT B n wd).map rqV) ∧ (∀ a, q = some a → w.heap.size ≤ a.block) ∧ (∀ a, q' = some a → w.heap.size ≤ a.block)) ∧ Below w.heap.size w w'



section
variable {H : Type} {enc : TypeId × Value → H} {W : World} {base : Nat} {v : Value} {d : DataW H} {q : List MemPlace}
set_option maxRecDepth 100000 in
theorem open_u8 {w : World} {fuel : Nat} {held : Bool} {cs : List Value} {x : DataW H × List MemPlace} (h : DataW.trod enc Try.prog w base (fun _ => true) held fuel 5 cs = some x) :
    ∃ b : Int, (0 ≤ b ∧ b < 256) ∧ ∀ (j : Nat) (v : Value), (u8V b)[j]? = some v → cs[j]? = some v := by
  obtain ⟨b, e, _, wb⟩ := DataW.trod_int Try.underlying5 h
  refine ⟨b, u8_of wb, fun j v hj => ?_⟩
  match j with
  | 0 => cases hj; rw [e]; rfl
  | j + 1 => simp [u8V] at hj
set_option maxRecDepth 100000 in
/-- the cells of a draft, opened -/
theorem open_dr {w : World} {fuel : Nat} {held : Bool} {cs : List Value} {x : DataW H × List MemPlace} (h : DataW.trod enc Try.prog w base (fun _ => true) held fuel 24 cs = some x) :
    ∃ (p : Option Addr) (c : Nat) (B : List Int) (n wd k : Int), DrA w p B n wd ∧ ∀ (j : Nat) (v : Value), (drC p c B n wd k).toList[j]? = some v → cs[j]? = some v := by
  have c5 : Try.prog.cellsOf 5 = 1 := by kernel_rfl
  have cS : Try.prog.cellsOf 22 = 1 := by kernel_rfl
  obtain ⟨n, en, wn⟩ := fld_int Try.underlying24 h 1 _ rfl c5 Try.underlying5
  obtain ⟨wd, ew, ww⟩ := fld_int Try.underlying24 h 2 _ rfl c5 Try.underlying5
  obtain ⟨k, ek, wk⟩ := fld_int Try.underlying24 h 3 _ rfl c_int Try.underlying3
  obtain ⟨n0, y0, h0⟩ := fld_of Try.underlying24 h 0 _ rfl
  obtain ⟨p, L, c, e, hL, hLc, hcm, hb⟩ := open_rows (n := 1) (0 : Int) u8V (fun b => 0 ≤ b ∧ b < 256) (fun _ => rfl) Try.underlying22 c5 (fun _ _ _ h => open_u8 h) h0
  have e0 : cs[0]? = some (.slice p L.length c) := by
    have e2 : (cs.drop 0).take (Try.prog.cellsOf 22) = [.slice p L.length c] := e
    rw [cS] at e2
    exact take1 e2
  refine ⟨p, c, L, n, wd, k, ⟨fun i b hb => ?_, hb, by omega, u8_of wn, u8_of ww⟩, fun j v hj => ?_⟩
  · cases p with
    | none =>
      have := hL.nil rfl
      simp at this
      subst this
      simp at hb
    | some a =>
      have := hL.cells a rfl i (u8V b) 0 (.int .u8 b) (by rw [List.getElem?_map, hb]; rfl) rfl
      rw [Nat.mul_one, Nat.add_zero] at this
      exact ⟨a, rfl, this⟩
  · match j with
    | 0 => cases hj; exact e0
    | 1 => cases hj; exact en
    | 2 => cases hj; exact ew
    | 3 => cases hj; exact ek
    | j + 4 => simp [drC] at hj
set_option maxRecDepth 100000 in
theorem arg_draft (hv : Value.okWide Try.prog W .any base 24 v) (h : DataW.Trod enc Try.prog W 0 (fun _ => true) true 24 v d q) :
    ∃ (p : Option Addr) (c : Nat) (B : List Int) (n wd k : Int), DrA W p B n wd ∧ v = .agg (drC p c B n wd k) := by
  obtain ⟨C, rfl, hsz0⟩ := okWide_struct Try.underlying24 hv
  have c42 : Try.prog.cellsOf 24 = 4 := by kernel_rfl
  obtain ⟨fuel, hf⟩ := h
  obtain ⟨p, c, B, n, wd, k, hA, hr⟩ := open_dr hf
  have e : C = (drC p c B n wd k).toList.toArray := agg_eq (by rw [hsz0, c42]; rfl) hr
  exact ⟨p, c, B, n, wd, k, hA, by rw [e]⟩
end
end Go.Proofs.Ytpbmeeogledmdae
