/-
  A draft of a message, handed in by value: opened to its numbers and its bytes.
-/
import Derived.Test.YtcipdimnbleljaaDmQ
import Derived.Test.YtcipdimnbleljaaWrap
import Derived.Deep.Slices
import Derived.Deep.Fields
namespace Go.Proofs.Ytcipdimnbleljaa
open Go.ChangeShapes Go.WideShapes Go.ChangeAt Go.RowKit Go.Deep
open Extern.Stop (cell)

theorem take1 {l : List Value} {i : Nat} {v : Value} (h : (l.drop i).take 1 = [v]) : l[i]? = some v := by
  have e : ((l.drop i).take 1)[0]? = some v := by rw [h]; rfl
  rw [List.getElem?_take_of_lt (by omega), List.getElem?_drop, Nat.add_zero] at e
  exact e
theorem u8_of {n : Int} (h : (Lit.int .u8 n).wf = true) : 0 ≤ n ∧ n < 256 := by
  have : 0 ≤ n ∧ n ≤ 255 := by simpa [Lit.wf, IntKind.min, IntKind.max, IntKind.signed, IntKind.bits] using h
  omega
theorem u16_of {n : Int} (h : (Lit.int .u16 n).wf = true) : 0 ≤ n ∧ n < 65536 := by
  have : 0 ≤ n ∧ n ≤ 65535 := by simpa [Lit.wf, IntKind.min, IntKind.max, IntKind.signed, IntKind.bits] using h
  omega
theorem u64_of {n : Int} (h : (Lit.int .u64 n).wf = true) : 0 ≤ n ∧ n < 18446744073709551616 := by
  have : 0 ≤ n ∧ n ≤ 18446744073709551615 := by simpa [Lit.wf, IntKind.min, IntKind.max, IntKind.signed, IntKind.bits] using h
  omega
section
variable {H : Type} {enc : TypeId × Value → H} {P : Program} {w : World} {base : Nat} {spare : Nat → Bool} {held : Bool} {fuel : Nat}
/-- an array of integers, opened -/
theorem open_ints {t e : TypeId} {n : Nat} {k : IntKind} {cs : List Value} {x : DataW H × List MemPlace} (ht : P.underlying t = some (.array n e)) (he : P.underlying e = some (.int k)) (hc : P.cellsOf e = 1)
    (h : DataW.trod enc P w base spare held fuel t cs = some x) : ∃ N : Nat → Int, ∀ i, i < n → cs[i]? = some (.int k (N i)) ∧ (Lit.int k (N i)).wf = true := by
  obtain ⟨xs, m, _, _, _, hl, hi⟩ := DataW.trod_array ht h
  have key : ∀ i, ∃ z : Int, i < n → cs[i]? = some (.int k z) ∧ (Lit.int k z).wf = true := by
    intro i
    by_cases hin : i < n
    · have h1 := hi i hin
      rw [hc, Nat.mul_one, List.getElem?_eq_getElem (by omega)] at h1
      obtain ⟨z, e0, _, wz⟩ := DataW.trod_int he h1
      exact ⟨z, fun _ => ⟨take1 e0, wz⟩⟩
    · exact ⟨0, fun h => absurd h hin⟩
  obtain ⟨N, hN⟩ := Classical.axiomOfChoice key
  exact ⟨N, hN⟩
/-- a row of bytes, opened -/
theorem open_bytes {t e : TypeId} {cs : List Value} {x : DataW H × List MemPlace} (ht : P.underlying t = some (.slice e)) (he : P.underlying e = some (.int .u8)) (hc : P.cellsOf e = 1)
    (h : DataW.trod enc P w base (fun _ => true) held fuel t cs = some x) : ∃ (p : Option Addr) (bs : List UInt8) (cap : Nat), cs = [.slice p bs.length cap] ∧ BysAt w p bs ∧ bs.length ≤ cap ∧ cap ≤ maxLen := by
  rcases open_slice ht h with ⟨rfl, _⟩ | ⟨a, len, cap, m, n, D, Pl, rfl, _, hl, hm, hmm, _, hi⟩
  · exact ⟨none, [], 0, rfl, ⟨fun _ => rfl, by show 0 ≤ _; omega, fun a ha => by cases ha⟩, Nat.le_refl _, by unfold maxLen; omega⟩
  · rw [if_pos rfl] at hmm
    subst hmm
    have key : ∀ i, ∃ z : Int, i < m → w.cell? (a.add i) = some (.int .u8 z) ∧ (Lit.int .u8 z).wf = true := by
      intro i
      by_cases hin : i < m
      · obtain ⟨cs', h1, h2⟩ := hi i hin
        rw [hc, Nat.mul_one] at h1
        obtain ⟨z, e0, _, wz⟩ := DataW.trod_int he h2
        subst e0
        obtain ⟨_, _, hat⟩ := World.cells?_some h1
        have := hat 0 (by omega)
        rw [Go.Deep.add_add, Nat.add_zero] at this
        exact ⟨z, fun _ => ⟨this, wz⟩⟩
      · exact ⟨0, fun h => absurd h hin⟩
    obtain ⟨N, hN⟩ := Classical.axiomOfChoice key
    have hbl : ((List.range len).map fun i => UInt8.ofNat (N i).toNat).length = len := by simp
    refine ⟨some a, (List.range len).map fun i => UInt8.ofNat (N i).toNat, m, by rw [hbl], ⟨(fun e => by cases e), by rw [hbl]; unfold maxLen at hm; omega, ?_⟩, by rw [hbl]; exact hl, hm⟩
    intro a' ha j hj
    cases ha
    rw [hbl] at hj
    obtain ⟨h1, h2⟩ := hN j (by omega)
    rw [h1]
    have h3 := u8_of h2
    have e : ((List.range len).map fun i => UInt8.ofNat (N i).toNat).getD j 0 = UInt8.ofNat (N j).toNat := by simp [List.getD_eq_getElem?_getD, hj]
    rw [e]
    show _ = some (Value.int .u8 (((UInt8.ofNat (N j).toNat).toNat : Nat) : Int))
    rw [UInt8.toNat_ofNat']
    congr 2
    omega
end

set_option maxRecDepth 100000 in
theorem open_draft {H : Type} {enc : TypeId × Value → H} {W : World} {base : Nat} {v : Value} {d : DataW H} {p : List MemPlace}
    (hv : Value.okWide Try.prog W .any base 28 v) (h : DataW.Trod enc Try.prog W 0 (fun _ => true) true 28 v d p) :
    ∃ (C : Array Value) (dv : DV), v = .agg C ∧ DraftOf C dv ∧ DraftRg dv ∧ BysAt W dv.p dv.bs := by
  obtain ⟨C, rfl, hsz0⟩ := okWide_struct Try.underlying28 hv
  have c28 : Try.prog.cellsOf 28 = 12 := by kernel_rfl
  have hsz : C.size = 12 := by rw [← c28]; exact hsz0
  obtain ⟨fuel, hf⟩ := h
  obtain ⟨y0, y1, y2, y3, n, _, _, h0, h1, h2, h3⟩ := Joins.trod_struct4 Try.underlying28 hf
  have c5 : Try.prog.cellsOf 5 = 1 := by kernel_rfl
  have c22 : Try.prog.cellsOf 22 = 1 := by kernel_rfl
  have c64 : Try.prog.cellsOf 24 = 1 := by kernel_rfl
  have cA : Try.prog.cellsOf 23 = 8 := by kernel_rfl
  have cB : Try.prog.cellsOf 25 = 2 := by kernel_rfl
  have cS : Try.prog.cellsOf 26 = 1 := by kernel_rfl
  simp only [c5, cA, cB, cS, Value.cells] at h0 h1 h2 h3
  obtain ⟨k, e0, _, wk⟩ := DataW.trod_int Try.underlying5 h0
  obtain ⟨N, hN⟩ := open_ints Try.underlying23 Try.underlying22 c22 h1
  obtain ⟨B, hB⟩ := open_ints Try.underlying25 Try.underlying24 c64 h2
  obtain ⟨q, bs, cap, e3, hbs, _, _⟩ := open_bytes Try.underlying26 Try.underlying5 c5 h3
  have g0 := take1 e0
  have g3 := take1 e3
  refine ⟨C, ⟨k, N, B, bs, cap, q⟩, rfl, ⟨hsz, ?_, ?_, ?_, ?_⟩, ⟨u8_of wk, fun i hi => u16_of (hN i hi).2, fun i hi => u64_of (hB i hi).2⟩, hbs⟩
  · rw [Array.getElem?_toList] at g0; exact g0
  · intro i hi
    have := (hN i hi).1
    rw [List.getElem?_take_of_lt hi, List.getElem?_drop, Array.getElem?_toList] at this
    exact this
  · intro i hi
    have := (hB i hi).1
    rw [List.getElem?_take_of_lt hi, List.getElem?_drop, Array.getElem?_toList] at this
    exact this
  · rw [Array.getElem?_toList] at g3; exact g3
end Go.Proofs.Ytcipdimnbleljaa
