/-
  A parameter of type Msg, opened.
-/
import Derived.Test.YtcipdimnbleljaaMsgTells
namespace Go.Proofs.Ytcipdimnbleljaa
open Go.ChangeShapes Go.WideShapes Go.ChangeAt Go.RowKit
open Extern.Stop (cell)
open Go.Deep (open_slice)

theorem i64_of {n : Int} (h : (Lit.int .i64 n).wf = true) : I64 n := by
  have : -9223372036854775808 ≤ n ∧ n ≤ 9223372036854775807 := by simpa [Lit.wf, IntKind.min, IntKind.max, IntKind.signed, IntKind.bits] using h
  unfold I64
  omega
section
variable {H : Type} {enc : TypeId × Value → H} {P : Program} {w : World} {base : Nat} {spare : Nat → Bool} {held : Bool} {fuel : Nat}
/-- one field of a struct, opened -/
theorem fld_of {t : TypeId} {fs : Array Field} {cs : List Value} {x : DataW H × List MemPlace} (ht : P.underlying t = some (.struct fs)) (h : DataW.trod enc P w base spare held fuel t cs = some x) (i : Nat) (f : Field) (hf : fs[i]? = some f) :
    ∃ n y, DataW.trod enc P w base spare held n f.type ((cs.drop f.offset).take (P.cellsOf f.type)) = some y := by
  obtain ⟨xs, n, _, _, _, hlen, hx⟩ := DataW.trod_struct ht h
  have hi : i < xs.length := by rw [hlen]; exact (Array.getElem?_eq_some_iff.1 hf).1
  have := hx i f hf
  rw [List.getElem?_eq_getElem hi] at this
  exact ⟨n, _, this⟩
theorem fld_int {t : TypeId} {fs : Array Field} {cs : List Value} {x : DataW H × List MemPlace} {k : IntKind} (ht : P.underlying t = some (.struct fs)) (h : DataW.trod enc P w base spare held fuel t cs = some x) (i : Nat) (f : Field) (hf : fs[i]? = some f) (hc : P.cellsOf f.type = 1) (hu : P.underlying f.type = some (.int k)) :
    ∃ z, cs[f.offset]? = some (.int k z) ∧ (Lit.int k z).wf = true := by
  obtain ⟨n, y, h1⟩ := fld_of ht h i f hf
  rw [hc] at h1
  obtain ⟨z, e, _, wz⟩ := DataW.trod_int hu h1
  exact ⟨z, take1 e, wz⟩
/-- a part's cell is the whole's -/
theorem part_at {l : List Value} {o n i : Nat} {v : Value} (h : ((l.drop o).take n)[i]? = some v) : l[o + i]? = some v := by
  have hi : i < n := by
    have := (List.getElem?_eq_some_iff.1 h).1
    rw [List.length_take] at this
    omega
  rw [List.getElem?_take_of_lt hi, List.getElem?_drop] at h
  exact h
/-- bytes of an array, as a list -/
theorem dig_of {cs : List Value} {N : Nat → Int} (h : ∀ i, i < 32 → cs[i]? = some (.int .u8 (N i)) ∧ (Lit.int .u8 (N i)).wf = true) :
    ∃ ds : List UInt8, ds.length = 32 ∧ ∀ i, i < 32 → cs[i]? = some (cell (ds.getD i 0)) := by
  refine ⟨(List.range 32).map fun i => UInt8.ofNat (N i).toNat, by simp, fun i hi => ?_⟩
  obtain ⟨h1, h2⟩ := h i hi
  have h3 := u8_of h2
  rw [h1]
  have e : ((List.range 32).map fun i => UInt8.ofNat (N i).toNat).getD i 0 = UInt8.ofNat (N i).toNat := by simp [List.getD_eq_getElem?_getD, hi]
  rw [e]
  show _ = some (Value.int .u8 (((UInt8.ofNat (N i).toNat).toNat : Nat) : Int))
  rw [UInt8.toNat_ofNat']
  congr 2
  omega
end
section
variable {H : Type} {enc : TypeId × Value → H} {w : World} {base fuel : Nat} {held : Bool}
/-- a mark, opened -/
theorem open_mark {cs : List Value} {x : DataW H × List MemPlace} (h : DataW.trod enc Try.prog w base (fun _ => true) held fuel 65 cs = some x) :
    ∃ (z : Int) (ds : List UInt8), I64 z ∧ ds.length = 32 ∧ ∀ (j : Nat) (v : Value), (markRow (z, ds))[j]? = some v → cs[j]? = some v := by
  have c3 : Try.prog.cellsOf 3 = 1 := by kernel_rfl
  have c5 : Try.prog.cellsOf 5 = 1 := by kernel_rfl
  obtain ⟨z, e0, wz⟩ := fld_int Try.underlying65 h 0 _ rfl c3 Try.underlying3
  obtain ⟨n, y, h1⟩ := fld_of Try.underlying65 h 1 _ rfl
  obtain ⟨N, hN⟩ := open_ints Try.underlying37 Try.underlying5 c5 h1
  obtain ⟨ds, hl, hd⟩ := dig_of hN
  refine ⟨z, ds, i64_of wz, hl, fun j v hj => ?_⟩
  cases j with
  | zero => have e : v = .int .i64 z := by simpa [markRow] using hj.symm
            rw [e]; exact e0
  | succ i =>
    have hi : i < 32 := by
      have := (List.getElem?_eq_some_iff.1 hj).1
      rw [markRow_length _ hl] at this
      omega
    have h2 := part_at (hd i hi)
    have e : v = cell (ds.getD i 0) := by
      have hi2 : i < ds.length := by omega
      unfold markRow at hj
      simp [List.getElem?_eq_getElem hi2] at hj
      rw [← hj]
      simp [List.getD_eq_getElem?_getD, hi2]
    rw [e, Nat.add_comm]
    exact h2
/-- a row of marks, opened -/
theorem open_marks {cs : List Value} {x : DataW H × List MemPlace} (h : DataW.trod enc Try.prog w base (fun _ => true) held fuel 38 cs = some x) :
    ∃ (p : Option Addr) (ms : List (Int × List UInt8)) (cap : Nat), cs = [.slice p ms.length cap] ∧ MksAt w p ms ∧ ms.length ≤ cap ∧ ∀ y ∈ ms, I64 y.1 := by
  rcases open_slice Try.underlying38 h with ⟨rfl, _⟩ | ⟨a, len, cap, m, n, D, Pl, rfl, _, hl, hm, hmm, _, hi⟩
  · exact ⟨none, [], 0, rfl, ⟨fun _ => rfl, (fun x hx => by cases hx), by show 0 ≤ _; omega, fun a ha => by cases ha⟩, Nat.le_refl _, (fun x hx => by cases hx)⟩
  · rw [if_pos rfl] at hmm
    subst hmm
    have cM : Try.prog.cellsOf 65 = 33 := by kernel_rfl
    have key : ∀ i, ∃ y : Int × List UInt8, i < m → I64 y.1 ∧ y.2.length = 32 ∧ ∀ j v, (markRow y)[j]? = some v → w.cell? ((a.add (i * 33)).add j) = some v := by
      intro i
      by_cases hin : i < m
      · obtain ⟨cs', h1, h2⟩ := hi i hin
        rw [cM] at h1
        obtain ⟨z, ds, hz, hd, hrow⟩ := open_mark h2
        obtain ⟨_, hcl, hat⟩ := World.cells?_some h1
        refine ⟨(z, ds), fun _ => ⟨hz, hd, fun j v hj => ?_⟩⟩
        have hj33 : j < 33 := by
          have := (List.getElem?_eq_some_iff.1 hj).1
          rwa [markRow_length _ hd] at this
        rw [hat j hj33]
        exact hrow j v hj
      · exact ⟨(0, []), fun h => absurd h hin⟩
    obtain ⟨F, hF⟩ := Classical.axiomOfChoice key
    have hlen : ((List.range len).map F).length = len := by simp
    have h32 : ∀ y ∈ (List.range len).map F, y.2.length = 32 := by
      intro y hy
      obtain ⟨i, hi', rfl⟩ := List.mem_map.1 hy
      exact (hF i (by have := List.mem_range.1 hi'; omega)).2.1
    refine ⟨some a, (List.range len).map F, m, by rw [hlen], ⟨(fun e => by cases e), h32, by rw [hlen]; unfold maxLen at hm; omega, ?_⟩, by rw [hlen]; exact hl, ?_⟩
    · intro a' ha j v hj
      cases ha
      have hjl := (List.getElem?_eq_some_iff.1 hj).1
      rw [mkCells_length _ h32, hlen] at hjl
      have hq : j / 33 < len := by omega
      have hr : j % 33 < 33 := Nat.mod_lt _ (by omega)
      have e : j / 33 * 33 + j % 33 = j := by omega
      have hk : ((List.range len).map F)[j / 33]? = some (F (j / 33)) := by simp [hq]
      have h1 := mkCells_at _ (j / 33) (j % 33) _ h32 hk hr
      rw [e, hj] at h1
      have h2 := (hF (j / 33) (by omega)).2.2 (j % 33) v h1.symm
      rwa [addr_add_add, e] at h2
    · intro y hy
      obtain ⟨i, hi', rfl⟩ := List.mem_map.1 hy
      exact (hF i (by have := List.mem_range.1 hi'; omega)).1
end
set_option maxRecDepth 100000 in
theorem open_msg {H : Type} {enc : TypeId × Value → H} {W : World} {base : Nat} {v : Value} {d : DataW H} {p : List MemPlace}
    (hv : Value.okWide Try.prog W .any base 42 v) (h : DataW.Trod enc Try.prog W 0 (fun _ => true) true 42 v d p) :
    ∃ (C : Array Value) (m : MV), v = .agg C ∧ MsgOf C m ∧ MarksAt W m ∧ MsgRg m ∧ m.ms.length ≤ m.cap := by
  obtain ⟨C, rfl, hsz0⟩ := okWide_struct Try.underlying42 hv
  have c42 : Try.prog.cellsOf 42 = 53 := by kernel_rfl
  have hsz : C.size = 53 := by rw [← c42]; exact hsz0
  obtain ⟨fuel, hf⟩ := h
  have c3 : Try.prog.cellsOf 3 = 1 := by kernel_rfl
  have c5 : Try.prog.cellsOf 5 = 1 := by kernel_rfl
  have c64 : Try.prog.cellsOf 24 = 1 := by kernel_rfl
  have cS : Try.prog.cellsOf 38 = 1 := by kernel_rfl
  obtain ⟨kind, e_kind, w_kind⟩ := fld_int Try.underlying42 hf 0 _ rfl c3 Try.underlying3
  obtain ⟨round, e_round, w_round⟩ := fld_int Try.underlying42 hf 1 _ rfl c3 Try.underlying3
  obtain ⟨carrier, e_carrier, w_carrier⟩ := fld_int Try.underlying42 hf 2 _ rfl c3 Try.underlying3
  obtain ⟨req, e_req, w_req⟩ := fld_int Try.underlying42 hf 3 _ rfl c3 Try.underlying3
  obtain ⟨reserve, e_reserve, w_reserve⟩ := fld_int Try.underlying42 hf 4 _ rfl c3 Try.underlying3
  obtain ⟨bid, e_bid, w_bid⟩ := fld_int Try.underlying42 hf 8 _ rfl c64 Try.underlying24
  obtain ⟨nonce, e_nonce, w_nonce⟩ := fld_int Try.underlying42 hf 9 _ rfl c64 Try.underlying24
  obtain ⟨n5, y5, h5⟩ := fld_of Try.underlying42 hf 5 _ rfl
  obtain ⟨n6, y6, h6⟩ := fld_of Try.underlying42 hf 6 _ rfl
  obtain ⟨n7, y7, h7⟩ := fld_of Try.underlying42 hf 7 _ rfl
  obtain ⟨n10, y10, h10⟩ := fld_of Try.underlying42 hf 10 _ rfl
  obtain ⟨st, e_st, w_st⟩ := fld_int Try.underlying40 h10 0 _ rfl c3 Try.underlying3
  obtain ⟨wn, e_wn, w_wn⟩ := fld_int Try.underlying40 h10 1 _ rfl c3 Try.underlying3
  obtain ⟨pr, e_pr, w_pr⟩ := fld_int Try.underlying40 h10 2 _ rfl c64 Try.underlying24
  obtain ⟨N, hN⟩ := open_ints Try.underlying37 Try.underlying5 c5 h6
  obtain ⟨dg, hdl, hdg⟩ := dig_of hN
  have h7' : DataW.trod enc Try.prog W 0 (fun _ => true) true n7 38 ((C.toList.drop 47).take (Try.prog.cellsOf 38)) = some y7 := h7
  rw [cS] at h7'
  obtain ⟨q, ms, cap, e7, hms, hcap, hrg⟩ := open_marks h7'
  obtain ⟨a0, b0, g0⟩ := fld_of Try.underlying35 h5 0 _ rfl
  obtain ⟨a1, b1, g1⟩ := fld_of Try.underlying35 h5 1 _ rfl
  obtain ⟨a2, b2, g2⟩ := fld_of Try.underlying35 h5 2 _ rfl
  obtain ⟨a3, b3, g3⟩ := fld_of Try.underlying35 h5 3 _ rfl
  obtain ⟨r0, e_r0, w_r0⟩ := fld_int Try.underlying31 g0 0 _ rfl c3 Try.underlying3
  obtain ⟨r1, e_r1, w_r1⟩ := fld_int Try.underlying31 g0 1 _ rfl c3 Try.underlying3
  obtain ⟨r2, e_r2, w_r2⟩ := fld_int Try.underlying31 g1 0 _ rfl c3 Try.underlying3
  obtain ⟨r3, e_r3, w_r3⟩ := fld_int Try.underlying31 g1 1 _ rfl c3 Try.underlying3
  obtain ⟨r4, e_r4, w_r4⟩ := fld_int Try.underlying33 g2 0 _ rfl c3 Try.underlying3
  obtain ⟨r5, e_r5, w_r5⟩ := fld_int Try.underlying33 g2 1 _ rfl c3 Try.underlying3
  obtain ⟨r6, e_r6, w_r6⟩ := fld_int Try.underlying33 g3 0 _ rfl c3 Try.underlying3
  obtain ⟨r7, e_r7, w_r7⟩ := fld_int Try.underlying33 g3 1 _ rfl c3 Try.underlying3
  obtain ⟨r8, e_r8, w_r8⟩ := fld_int Try.underlying35 h5 4 _ rfl c3 Try.underlying3
  obtain ⟨r9, e_r9, w_r9⟩ := fld_int Try.underlying35 h5 5 _ rfl c3 Try.underlying3
  have al : ∀ {i : Nat} {v : Value}, C.toList[i]? = some v → C[i]? = some v := fun {i v} h => by rwa [Array.getElem?_toList] at h
  have e_ms := al (take1 e7)
  let m : MV := { kind := kind, round := round, carrier := carrier, req := req, reserve := reserve, rq := fun i => [r0, r1, r2, r3, r4, r5, r6, r7, r8, r9].getD i 0, dg := dg, ms := ms, cap := cap, p := q, bid := bid, nonce := nonce, state := st, winner := wn, price := pr }
  refine ⟨C, m, rfl, ⟨hsz, al e_kind, al e_round, al e_carrier, al e_req, al e_reserve, ?_, ?_, hdl, e_ms, al e_bid, al e_nonce, al (part_at e_st), al (part_at e_wn), al (part_at e_pr)⟩, ⟨hms.nil, hms.len, hms.big, hms.cells⟩,
    ⟨i64_of w_kind, i64_of w_round, i64_of w_carrier, i64_of w_req, i64_of w_reserve, ?_, hrg, u64_of w_bid, u64_of w_nonce, i64_of w_st, i64_of w_wn, u64_of w_pr⟩, hcap⟩
  · intro i hi
    match i, hi with
    | 0, _ => exact al (part_at (part_at e_r0))
    | 1, _ => exact al (part_at (part_at e_r1))
    | 2, _ => exact al (part_at (part_at e_r2))
    | 3, _ => exact al (part_at (part_at e_r3))
    | 4, _ => exact al (part_at (part_at e_r4))
    | 5, _ => exact al (part_at (part_at e_r5))
    | 6, _ => exact al (part_at (part_at e_r6))
    | 7, _ => exact al (part_at (part_at e_r7))
    | 8, _ => exact al (part_at e_r8)
    | 9, _ => exact al (part_at e_r9)
    | i + 10, hi => exact absurd hi (by omega)
  · intro i hi
    exact al (part_at (hdg i hi))
  · intro i hi
    match i, hi with
    | 0, _ => exact i64_of w_r0
    | 1, _ => exact i64_of w_r1
    | 2, _ => exact i64_of w_r2
    | 3, _ => exact i64_of w_r3
    | 4, _ => exact i64_of w_r4
    | 5, _ => exact i64_of w_r5
    | 6, _ => exact i64_of w_r6
    | 7, _ => exact i64_of w_r7
    | 8, _ => exact i64_of w_r8
    | 9, _ => exact i64_of w_r9
    | i + 10, hi => exact absurd hi (by omega)
theorem okWide_array {P : Program} {w : World} {r : Reach} {base : Nat} {t : TypeId} {v : Value} {n : Nat} {e : TypeId} (ht : P.underlying t = some (.array n e)) (h : Value.okWide P w r base t v) : ∃ cs, v = .agg cs ∧ cs.size = P.cellsOf t := by
  simp only [Value.okWide, ht] at h
  obtain ⟨cs, h1, h2, _⟩ := h
  exact ⟨cs, h1, h2⟩
set_option maxRecDepth 100000 in
theorem open_two {H : Type} {enc : TypeId × Value → H} {W : World} {base : Nat} {v : Value} {d : DataW H} {p : List MemPlace}
    (hv : Value.okWide Try.prog W .any base 29 v) (h : DataW.Trod enc Try.prog W 0 (fun _ => true) true 29 v d p) : ∃ k0 k1 : Int, v = .agg #[.int .i64 k0, .int .i64 k1] ∧ I64 k0 ∧ I64 k1 := by
  obtain ⟨C, rfl, hsz0⟩ := okWide_array Try.underlying29 hv
  have c2 : Try.prog.cellsOf 29 = 2 := by kernel_rfl
  have c3 : Try.prog.cellsOf 3 = 1 := by kernel_rfl
  have hsz : C.size = 2 := by rw [← c2]; exact hsz0
  obtain ⟨fuel, hf⟩ := h
  obtain ⟨N, hN⟩ := open_ints Try.underlying29 Try.underlying3 c3 hf
  have g : ∀ i, i < 2 → C[i]? = some (.int .i64 (N i)) := fun i hi => by
    have h' : C.toList[i]? = some (.int .i64 (N i)) := (hN i hi).1
    rwa [Array.getElem?_toList] at h'
  refine ⟨N 0, N 1, ?_, i64_of (hN 0 (by omega)).2, i64_of (hN 1 (by omega)).2⟩
  congr 1
  apply Array.ext_getElem?
  intro i
  match i with
  | 0 => rw [g 0 (by omega)]; rfl
  | 1 => rw [g 1 (by omega)]; rfl
  | i + 2 => rw [Array.getElem?_eq_none (by omega), Array.getElem?_eq_none (by show 2 ≤ _; omega)]
set_option maxRecDepth 100000 in
theorem MsgTells_calls {H : Type} {enc : TypeId × Value → H} {W : World} {base : Nat} {v0 v1 v2 : Value} {x0 x1 x2 : DataW H} {p0 p1 p2 : List MemPlace}
    (hv0 : Value.okWide Try.prog W .any base 28 v0) (t0 : DataW.Trod enc Try.prog W 0 (fun _ => true) true 28 v0 x0 p0)
    (hv1 : Value.okWide Try.prog W .any base 29 v1) (t1 : DataW.Trod enc Try.prog W 0 (fun _ => true) true 29 v1 x1 p1)
    (hv2 : Value.okWide Try.prog W .any base 42 v2) (t2 : DataW.Trod enc Try.prog W 0 (fun _ => true) true 42 v2 x2 p2) :
    Calls Try.prog 3 #[v0, v1, v2] W fun e w' => e = .returned (.bool true) ∧ Below W.heap.size W w' := by
  obtain ⟨C0, d0, rfl, h0, r0, a0⟩ := open_draft hv0 t0
  obtain ⟨k0, k1, rfl, _, hk1⟩ := open_two hv1 t1
  obtain ⟨CM, mm, rfl, hM, hA, hR, hcap⟩ := open_msg hv2 t2
  exact MsgTells_walk C0 d0 k0 k1 CM mm W h0 r0 a0 hk1 hM hA hR hcap
end Go.Proofs.Ytcipdimnbleljaa
