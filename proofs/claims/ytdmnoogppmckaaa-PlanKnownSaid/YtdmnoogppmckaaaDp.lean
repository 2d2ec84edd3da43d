/-
  Drafts (layer 7): Parts; the document's Without (layer 6); a draft that is handed in.
-/
import Derived.Test.YtdmnoogppmckaaaDq
namespace Go.Proofs.Ytdmnoogppmckaaa
open Go.ChangeShapes Go.WideShapes Go.ChangeAt Go.RowKit

/-- a draft's bytes, where nobody draws yet -/
structure DrA (w : World) (p : Option Addr) (B : List Int) (n wd : Int) : Prop where
  els : ∀ i b, B[i]? = some b → ∃ a, p = some a ∧ w.cell? (a.add i) = some (.int .u8 b)
  rng : ∀ b ∈ B, 0 ≤ b ∧ b < 256
  len : B.length ≤ 9223372036854775807
  nb : 0 ≤ n ∧ n < 256
  wb : 0 ≤ wd ∧ wd < 256
theorem DrA.below {w w' : World} {p : Option Addr} {B : List Int} {n wd : Int} (h : DrA w p B n wd) (hb : Below w.heap.size w w') : DrA w' p B n wd :=
  ⟨fun i b hb2 => by
    obtain ⟨a, ha, hc⟩ := h.els i b hb2
    exact ⟨a, ha, (hb.cell (World.block_lt_of_cell? _ _ hc)).trans hc⟩, h.rng, h.len, h.nb, h.wb⟩
theorem res_ctt {P : Program} {fn : Func} {p q r : Tmp} {ty : TypeId} (h : fn.results = #[.cell p ty, .tmp q, .tmp r]) {tmps : Array Value} {w : World} {g : Nat} {v : Value}
    (hp : tmps.getD p undef = .pointer (some ⟨g, 0, none⟩)) (hrun : (loadVar ty ⟨g, 0, none⟩).run P w = .ok v w) :
    (results fn tmps).run P w = .ok (.tuple #[v, tmps.getD q undef, tmps.getD r undef]) w := by
  have hp' : tmps[p]?.getD undef = .pointer (some ⟨g, 0, none⟩) := by simpa using hp
  simp [results, h, hp', asAddr, hrun]
/-- how many requests a draft has -/
def dpN (n : Int) : Nat := (n % 7).toNat
def dpT (B : List Int) (n wd : Int) : List Rq := drT B wd 0 (dpN n)
def dpV (B : List Int) (n : Int) : Ve := drV B (8 * (dpN n : Int))
def dpL (B : List Int) (n : Int) : List (Int × Int) := drRt B (8 * (dpN n : Int) + 5) 0 (dpN n)
def DpPost (w : World) (B : List Int) (n wd : Int) (e : Ending) (w' : World) : Prop :=
  (∃ q d q' d', e = .returned (.tuple #[.agg (veR (dpV B n)).toArray, .slice q (dpL B n).length d, .slice q' (dpT B n wd).length d']) ∧ ((dpL B n).length ≤ d ∧ d ≤ 9223372036854775807) ∧ ((dpT B n wd).length ≤ d' ∧ d' ≤ 9223372036854775807) ∧
    Els w' q 2 ((dpL B n).map stV) ∧ Els w' q' 10 ((dpT B n wd).map rqV) ∧ (∀ a, q = some a → w.heap.size ≤ a.block) ∧ (∀ a, q' = some a → w.heap.size ≤ a.block)) ∧ Below w.heap.size w w'



section
variable {H : Type} {enc : TypeId × Value → H} {W : World} {base : Nat} {v : Value} {d : DataW H} {q : List MemPlace}
set_option maxRecDepth 100000 in
theorem open_u8 {w : World} {fuel : Nat} {held : Bool} {cs : List Value} {x : DataW H × List MemPlace} (h : DataW.trod enc Try.prog w base (fun _ => true) held fuel 5 cs = some x) :
    ∃ b : Int, (0 ≤ b ∧ b < 256) ∧ ∀ (j : Nat) (v : Value), (u8V b)[j]? = some v → cs[j]? = some v := by
  obtain ⟨b, e, _, wb⟩ := DataW.trod_int Try.underlying5 h
  refine ⟨b, u8_of wb, fun j v hj => ?_⟩
  match j with
  | 0 => cases hj; rw [e]; rfl
  | j + 1 => simp [u8V] at hj
end
end Go.Proofs.Ytdmnoogppmckaaa
