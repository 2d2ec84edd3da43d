/-
  Arguments opened: rows of structs whose cells are integers; vehicles, stops, requests, arrays, bytes.
-/
import Derived.Test.YtpbmeeogledmdaeWrap
import Derived.Test.YtpbmeeogledmdaeTm
import Derived.Deep.Slices
import Derived.Deep.Fields
namespace Go.Proofs.Ytpbmeeogledmdae
open Go.ChangeShapes Go.WideShapes Go.ChangeAt Go.RowKit
open Go.Deep (open_slice)

theorem take1 {l : List Value} {i : Nat} {v : Value} (h : (l.drop i).take 1 = [v]) : l[i]? = some v := by
  have e : ((l.drop i).take 1)[0]? = some v := by rw [h]; rfl
  rw [List.getElem?_take_of_lt (by omega), List.getElem?_drop, Nat.add_zero] at e
  exact e
theorem u8_of {n : Int} (h : (Lit.int .u8 n).wf = true) : 0 ≤ n ∧ n < 256 := by
  have : 0 ≤ n ∧ n ≤ 255 := by simpa [Lit.wf, IntKind.min, IntKind.max, IntKind.signed, IntKind.bits] using h
  omega
theorem u16_of {n : Int} (h : (Lit.int .u16 n).wf = true) : 0 ≤ n ∧ n < 65536 := by
  have : 0 ≤ n ∧ n ≤ 65535 := by simpa [Lit.wf, IntKind.min, IntKind.max, IntKind.signed, IntKind.bits] using h
  omega
/-- an int of Go's -/
def W64 (n : Int) : Prop := -9223372036854775808 ≤ n ∧ n ≤ 9223372036854775807
theorem i64_of {n : Int} (h : (Lit.int .i64 n).wf = true) : W64 n := by
  have : -9223372036854775808 ≤ n ∧ n ≤ 9223372036854775807 := by simpa [Lit.wf, IntKind.min, IntKind.max, IntKind.signed, IntKind.bits] using h
  exact this
theorem part_at {l : List Value} {o n i : Nat} {v : Value} (h : ((l.drop o).take n)[i]? = some v) : l[o + i]? = some v := by
  have hi : i < n := by
    have := (List.getElem?_eq_some_iff.1 h).1
    rw [List.length_take] at this
    omega
  rw [List.getElem?_take_of_lt hi, List.getElem?_drop] at h
  exact h
section
variable {H : Type} {enc : TypeId × Value → H} {P : Program} {w : World} {base : Nat} {spare : Nat → Bool} {held : Bool} {fuel : Nat}
/-- one field of a struct, opened -/
theorem fld_of {t : TypeId} {fs : Array Field} {cs : List Value} {x : DataW H × List MemPlace} (ht : P.underlying t = some (.struct fs)) (h : DataW.trod enc P w base spare held fuel t cs = some x) (i : Nat) (f : Field) (hf : fs[i]? = some f) :
    ∃ n y, DataW.trod enc P w base spare held n f.type ((cs.drop f.offset).take (P.cellsOf f.type)) = some y := by
  obtain ⟨xs, n, _, _, _, hlen, hx⟩ := DataW.trod_struct ht h
  have hi : i < xs.length := by rw [hlen]; exact (Array.getElem?_eq_some_iff.1 hf).1
  have := hx i f hf
  rw [List.getElem?_eq_getElem hi] at this
  exact ⟨n, _, this⟩
theorem fld_int {t : TypeId} {fs : Array Field} {cs : List Value} {x : DataW H × List MemPlace} {k : IntKind} (ht : P.underlying t = some (.struct fs)) (h : DataW.trod enc P w base spare held fuel t cs = some x) (i : Nat) (f : Field) (hf : fs[i]? = some f) (hc : P.cellsOf f.type = 1) (hu : P.underlying f.type = some (.int k)) :
    ∃ z, cs[f.offset]? = some (.int k z) ∧ (Lit.int k z).wf = true := by
  obtain ⟨n, y, h1⟩ := fld_of ht h i f hf
  rw [hc] at h1
  obtain ⟨z, e, _, wz⟩ := DataW.trod_int hu h1
  exact ⟨z, take1 e, wz⟩
/-- an array of integers, opened -/
theorem open_ints {t e : TypeId} {n : Nat} {k : IntKind} {cs : List Value} {x : DataW H × List MemPlace} (ht : P.underlying t = some (.array n e)) (he : P.underlying e = some (.int k)) (hc : P.cellsOf e = 1)
    (h : DataW.trod enc P w base spare held fuel t cs = some x) : ∃ N : Nat → Int, ∀ i, i < n → cs[i]? = some (.int k (N i)) ∧ (Lit.int k (N i)).wf = true := by
  obtain ⟨xs, m, _, _, _, hl, hi⟩ := DataW.trod_array ht h
  have key : ∀ i, ∃ z : Int, i < n → cs[i]? = some (.int k z) ∧ (Lit.int k z).wf = true := by
    intro i
    by_cases hin : i < n
    · have h1 := hi i hin
      rw [hc, Nat.mul_one, List.getElem?_eq_getElem (by omega)] at h1
      obtain ⟨z, e0, _, wz⟩ := DataW.trod_int he h1
      exact ⟨z, fun _ => ⟨take1 e0, wz⟩⟩
    · exact ⟨0, fun h => absurd h hin⟩
  obtain ⟨N, hN⟩ := Classical.axiomOfChoice key
  exact ⟨N, hN⟩
theorem okWide_array {r : Reach} {t : TypeId} {v : Value} {n : Nat} {e : TypeId} (ht : P.underlying t = some (.array n e)) (h : Value.okWide P w r base t v) : ∃ cs, v = .agg cs ∧ cs.size = P.cellsOf t := by
  simp only [Value.okWide, ht] at h
  obtain ⟨cs, h1, h2, _⟩ := h
  exact ⟨cs, h1, h2⟩
/-- rows as they are handed in: of any length that an int can tell -/
structure ElsR (w : World) (p : Option Addr) (n : Nat) (R : List (List Value)) : Prop where
  nil : p = none → R = []
  len : ∀ x ∈ R, x.length = n
  cells : ∀ a, p = some a → ∀ k x j v, R[k]? = some x → x[j]? = some v → w.cell? (a.add (k * n + j)) = some v
theorem ElsR.take {p : Option Addr} {n : Nat} {R : List (List Value)} (h : ElsR w p n R) (k : Nat) (hk : k ≤ 140737488351232) : Els w p n (R.take k) :=
  ⟨fun e => by rw [h.nil e, List.take_nil], fun x hx => h.len x (List.mem_of_mem_take hx), by rw [List.length_take]; omega, fun a ha i x j v hi hj => h.cells a ha i x j v (by
    have := (List.getElem?_eq_some_iff.1 hi).1
    rw [List.length_take] at this
    rwa [List.getElem?_take_of_lt (by omega)] at hi) hj⟩
theorem open_rows {α : Type} (d : α) (row : α → List Value) (Pd : α → Prop) {n : Nat} (hrow : ∀ a, (row a).length = n) {t e : TypeId} (ht : P.underlying t = some (.slice e)) (hC : P.cellsOf e = n)
    (elt : ∀ (fuel : Nat) (cs : List Value) (x : DataW H × List MemPlace), DataW.trod enc P w base (fun _ => true) held fuel e cs = some x → ∃ y, Pd y ∧ ∀ (j : Nat) (v : Value), (row y)[j]? = some v → cs[j]? = some v)
    {cs : List Value} {x : DataW H × List MemPlace} (h : DataW.trod enc P w base (fun _ => true) held fuel t cs = some x) :
    ∃ (p : Option Addr) (L : List α) (cap : Nat), cs = [.slice p L.length cap] ∧ ElsR w p n (L.map row) ∧ L.length ≤ cap ∧ cap ≤ 9223372036854775807 ∧ ∀ y ∈ L, Pd y := by
  rcases open_slice ht h with ⟨rfl, _⟩ | ⟨a, len, cap, m, n', D, Pl, rfl, _, hl, hm, hmm, _, hi⟩
  · exact ⟨none, [], 0, rfl, ⟨fun _ => rfl, (fun x hx => by cases hx), fun a ha => by cases ha⟩, Nat.le_refl _, by omega, (fun x hx => by cases hx)⟩
  · rw [if_pos rfl] at hmm
    subst hmm
    have key : ∀ i, ∃ y : α, i < m → Pd y ∧ ∀ (j : Nat) (v : Value), (row y)[j]? = some v → w.cell? ((a.add (i * n)).add j) = some v := by
      intro i
      by_cases hin : i < m
      · obtain ⟨cs', h1, h2⟩ := hi i hin
        rw [hC] at h1
        obtain ⟨y, hy, hr⟩ := elt _ _ _ h2
        obtain ⟨_, hcl, hat⟩ := World.cells?_some h1
        refine ⟨y, fun _ => ⟨hy, fun j v hj => ?_⟩⟩
        have hjn : j < n := by
          have := (List.getElem?_eq_some_iff.1 hj).1
          rwa [hrow] at this
        rw [hat j hjn]
        exact hr j v hj
      · exact ⟨d, fun h => absurd h hin⟩
    obtain ⟨F, hF⟩ := Classical.axiomOfChoice key
    have hlen : ((List.range len).map F).length = len := by simp
    refine ⟨some a, (List.range len).map F, m, by rw [hlen], ⟨(fun e => by cases e), ?_, ?_⟩, by rw [hlen]; exact hl, by unfold maxLen at hm; omega, ?_⟩
    · intro y hy
      obtain ⟨z, _, rfl⟩ := List.mem_map.1 hy
      exact hrow z
    · intro a' ha k x j v hk hj
      cases ha
      rw [List.map_map, List.getElem?_map] at hk
      simp only [Option.map_eq_some_iff, Function.comp_apply] at hk
      obtain ⟨i, hi2, rfl⟩ := hk
      obtain ⟨hlt, e⟩ := List.getElem?_eq_some_iff.1 hi2
      rw [List.length_range] at hlt
      rw [List.getElem_range] at e
      subst e
      have := (hF k (by omega)).2 j v hj
      rwa [addr_add_add] at this
    · intro y hy
      obtain ⟨i, hi', rfl⟩ := List.mem_map.1 hy
      exact (hF i (by have := List.mem_range.1 hi'; omega)).1
end
section
variable {H : Type} {enc : TypeId × Value → H} {w : World} {base fuel : Nat} {held : Bool} {cs : List Value} {x : DataW H × List MemPlace}
set_option maxRecDepth 100000 in
theorem c_int : Try.prog.cellsOf 3 = 1 := by kernel_rfl
set_option maxRecDepth 100000 in
/-- a stop, opened -/
theorem open_stop (h : DataW.trod enc Try.prog w base (fun _ => true) held fuel 81 cs = some x) : ∃ s : Int × Int, (W64 s.1 ∧ W64 s.2) ∧ ∀ (j : Nat) (v : Value), (stV s)[j]? = some v → cs[j]? = some v := by
  obtain ⟨a, ea, wa⟩ := fld_int Try.underlying81 h 0 _ rfl c_int Try.underlying3
  obtain ⟨b, eb, wb⟩ := fld_int Try.underlying81 h 1 _ rfl c_int Try.underlying3
  refine ⟨(a, b), ⟨i64_of wa, i64_of wb⟩, fun j v hj => ?_⟩
  match j with
  | 0 => cases hj; exact ea
  | 1 => cases hj; exact eb
  | j + 2 => simp [stV] at hj
set_option maxRecDepth 100000 in
theorem open_plc (h : DataW.trod enc Try.prog w base (fun _ => true) held fuel 45 cs = some x) : ∃ a b : Int, (W64 a ∧ W64 b) ∧ cs[0]? = some (.int .i64 a) ∧ cs[1]? = some (.int .i64 b) := by
  obtain ⟨a, ea, wa⟩ := fld_int Try.underlying45 h 0 _ rfl c_int Try.underlying3
  obtain ⟨b, eb, wb⟩ := fld_int Try.underlying45 h 1 _ rfl c_int Try.underlying3
  exact ⟨a, b, ⟨i64_of wa, i64_of wb⟩, ea, eb⟩
set_option maxRecDepth 100000 in
theorem open_win (h : DataW.trod enc Try.prog w base (fun _ => true) held fuel 59 cs = some x) : ∃ a b : Int, (W64 a ∧ W64 b) ∧ cs[0]? = some (.int .i64 a) ∧ cs[1]? = some (.int .i64 b) := by
  obtain ⟨a, ea, wa⟩ := fld_int Try.underlying59 h 0 _ rfl c_int Try.underlying3
  obtain ⟨b, eb, wb⟩ := fld_int Try.underlying59 h 1 _ rfl c_int Try.underlying3
  exact ⟨a, b, ⟨i64_of wa, i64_of wb⟩, ea, eb⟩
def rqMk (L : List Int) : Rq := fun i => L.getD i 0
set_option maxRecDepth 100000 in
/-- a request, opened -/
theorem open_rq (h : DataW.trod enc Try.prog w base (fun _ => true) held fuel 61 cs = some x) : ∃ q : Rq, (∀ i, W64 (q i)) ∧ ∀ (j : Nat) (v : Value), (rqV q)[j]? = some v → cs[j]? = some v := by
  obtain ⟨n0, y0, h0⟩ := fld_of Try.underlying61 h 0 _ rfl
  obtain ⟨n1, y1, h1⟩ := fld_of Try.underlying61 h 1 _ rfl
  obtain ⟨n2, y2, h2⟩ := fld_of Try.underlying61 h 2 _ rfl
  obtain ⟨n3, y3, h3⟩ := fld_of Try.underlying61 h 3 _ rfl
  obtain ⟨i, ei, wi⟩ := fld_int Try.underlying61 h 4 _ rfl c_int Try.underlying3
  obtain ⟨k, ek, wk⟩ := fld_int Try.underlying61 h 5 _ rfl c_int Try.underlying3
  obtain ⟨a, b, ⟨wa, wb⟩, ea, eb⟩ := open_plc h0
  obtain ⟨c, d, ⟨wc, wd⟩, ec, ed⟩ := open_plc h1
  obtain ⟨e, f, ⟨we, wf⟩, ee, ef⟩ := open_win h2
  obtain ⟨g, m, ⟨wg, wm⟩, eg, em⟩ := open_win h3
  replace ea := part_at ea
  replace eb := part_at eb
  replace ec := part_at ec
  replace ed := part_at ed
  replace ee := part_at ee
  replace ef := part_at ef
  replace eg := part_at eg
  replace em := part_at em
  refine ⟨rqMk [a, b, c, d, e, f, g, m, i, k], fun j => ?_, fun j v hj => ?_⟩
  · have w0 : W64 0 := by unfold W64; omega
    match j with
    | 0 => exact wa
    | 1 => exact wb
    | 2 => exact wc
    | 3 => exact wd
    | 4 => exact we
    | 5 => exact wf
    | 6 => exact wg
    | 7 => exact wm
    | 8 => exact i64_of wi
    | 9 => exact i64_of wk
    | j + 10 => exact w0
  · match j with
    | 0 => cases hj; exact ea
    | 1 => cases hj; exact eb
    | 2 => cases hj; exact ec
    | 3 => cases hj; exact ed
    | 4 => cases hj; exact ee
    | 5 => cases hj; exact ef
    | 6 => cases hj; exact eg
    | 7 => cases hj; exact em
    | 8 => cases hj; exact ei
    | 9 => cases hj; exact ek
    | j + 10 => simp [rqV] at hj
/-- a vehicle's cells -/
def veV (x y cp st en : Int) : List Value := [.int .i64 x, .int .i64 y, .int .i64 cp, .int .i64 st, .int .i64 en]
abbrev Ve := Nat → Int
def veR (v : Ve) : List Value := [.int .i64 (v 0), .int .i64 (v 1), .int .i64 (v 2), .int .i64 (v 3), .int .i64 (v 4)]
set_option maxRecDepth 100000 in
theorem open_ve (h : DataW.trod enc Try.prog w base (fun _ => true) held fuel 47 cs = some x) : ∃ q : Ve, (∀ i, W64 (q i)) ∧ ∀ (j : Nat) (v : Value), (veR q)[j]? = some v → cs[j]? = some v := by
  obtain ⟨n0, y0, h0⟩ := fld_of Try.underlying47 h 0 _ rfl
  obtain ⟨c, ec, wc⟩ := fld_int Try.underlying47 h 1 _ rfl c_int Try.underlying3
  obtain ⟨d, ed, wd⟩ := fld_int Try.underlying47 h 2 _ rfl c_int Try.underlying3
  obtain ⟨e, ee, we⟩ := fld_int Try.underlying47 h 3 _ rfl c_int Try.underlying3
  obtain ⟨a, b, ⟨wa, wb⟩, ea, eb⟩ := open_plc h0
  replace ea := part_at ea
  replace eb := part_at eb
  refine ⟨rqMk [a, b, c, d, e], fun j => ?_, fun j v hj => ?_⟩
  · have w0 : W64 0 := by unfold W64; omega
    match j with
    | 0 => exact wa
    | 1 => exact wb
    | 2 => exact i64_of wc
    | 3 => exact i64_of wd
    | 4 => exact i64_of we
    | j + 5 => exact w0
  · match j with
    | 0 => cases hj; exact ea
    | 1 => cases hj; exact eb
    | 2 => cases hj; exact ec
    | 3 => cases hj; exact ed
    | 4 => cases hj; exact ee
    | j + 5 => simp [veR] at hj
end
section
variable {H : Type} {enc : TypeId × Value → H} {W : World} {base : Nat} {v : Value} {d : DataW H} {p : List MemPlace}
/-- an aggregate's cells, by a row -/
theorem agg_eq {C : Array Value} {R : List Value} (hs : C.size = R.length) (h : ∀ (j : Nat) (v : Value), R[j]? = some v → C.toList[j]? = some v) : C = R.toArray := by
  apply Array.ext
  · simpa using hs
  · intro i h1 h2
    have := h i R[i] (List.getElem?_eq_getElem (by simpa using h2))
    simp only [Array.getElem?_toList, Array.getElem?_eq_getElem h1, Option.some.injEq] at this
    simpa using this
set_option maxRecDepth 100000 in
theorem arg_ve (hv : Value.okWide Try.prog W .any base 47 v) (h : DataW.Trod enc Try.prog W 0 (fun _ => true) true 47 v d p) :
    ∃ q : Ve, (∀ i, W64 (q i)) ∧ v = .agg (veR q).toArray := by
  obtain ⟨C, rfl, hsz0⟩ := okWide_struct Try.underlying47 hv
  have c42 : Try.prog.cellsOf 47 = 5 := by kernel_rfl
  obtain ⟨fuel, hf⟩ := h
  obtain ⟨q, hq, hr⟩ := open_ve hf
  have e : C = (veR q).toArray := agg_eq (R := veR q) (by rw [← show Try.prog.cellsOf 47 = (veR q).length from c42]; exact hsz0) hr
  exact ⟨q, hq, by rw [e]⟩
set_option maxRecDepth 100000 in
theorem arg_stops (hv : Value.okWide Try.prog W .any base 48 v) (h : DataW.Trod enc Try.prog W 0 (fun _ => true) true 48 v d p) :
    ∃ (q : Option Addr) (L : List (Int × Int)) (cap : Nat), v = .slice q L.length cap ∧ ElsR W q 2 (L.map stV) ∧ L.length ≤ cap ∧ cap ≤ 9223372036854775807 := by
  obtain ⟨a, len, cap0, rfl⟩ := okWide_slice Try.underlying48 hv
  obtain ⟨fuel, hf⟩ := h
  obtain ⟨q, L, cap, e, h1, h2, h3, _⟩ := open_rows (n := 2) ((0, 0) : Int × Int) stV _ (fun _ => rfl) Try.underlying48 (by kernel_rfl) (fun _ _ _ h => open_stop h) hf
  exact ⟨q, L, cap, by simpa [Value.cells] using e, h1, h2, h3⟩
set_option maxRecDepth 100000 in
theorem arg_rqs (hv : Value.okWide Try.prog W .any base 30 v) (h : DataW.Trod enc Try.prog W 0 (fun _ => true) true 30 v d p) :
    ∃ (q : Option Addr) (L : List Rq) (cap : Nat), v = .slice q L.length cap ∧ ElsR W q 10 (L.map rqV) ∧ L.length ≤ cap ∧ cap ≤ 9223372036854775807 := by
  obtain ⟨a, len, cap0, rfl⟩ := okWide_slice Try.underlying30 hv
  obtain ⟨fuel, hf⟩ := h
  obtain ⟨q, L, cap, e, h1, h2, h3, _⟩ := open_rows (n := 10) (rqZ0) rqV _ (fun _ => rfl) Try.underlying30 (by kernel_rfl) (fun _ _ _ h => open_rq h) hf
  exact ⟨q, L, cap, by simpa [Value.cells] using e, h1, h2, h3⟩
set_option maxRecDepth 100000 in
theorem arg_three {t : TypeId} (ht : Try.prog.underlying t = some (.array 3 3)) (hc : Try.prog.cellsOf t = 3) (hv : Value.okWide Try.prog W .any base t v) (h : DataW.Trod enc Try.prog W 0 (fun _ => true) true t v d p) :
    ∃ a b c : Int, (W64 a ∧ W64 b ∧ W64 c) ∧ v = .agg #[.int .i64 a, .int .i64 b, .int .i64 c] := by
  obtain ⟨C, rfl, hsz0⟩ := okWide_array ht hv
  obtain ⟨fuel, hf⟩ := h
  obtain ⟨N, hN⟩ := open_ints ht Try.underlying3 c_int hf
  have h0 := hN 0 (by omega)
  have h1 := hN 1 (by omega)
  have h2 := hN 2 (by omega)
  refine ⟨N 0, N 1, N 2, ⟨i64_of h0.2, i64_of h1.2, i64_of h2.2⟩, ?_⟩
  have e : C = [Value.int .i64 (N 0), .int .i64 (N 1), .int .i64 (N 2)].toArray := agg_eq (by rw [hsz0, hc]; rfl) (fun j v hj => by
    match j with
    | 0 => cases hj; exact h0.1
    | 1 => cases hj; exact h1.1
    | 2 => cases hj; exact h2.1
    | j + 3 => simp at hj)
  rw [e]
end
end Go.Proofs.Ytpbmeeogledmdae
