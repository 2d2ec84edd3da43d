/-
  Drafts (layer 7): Parts; the document's Without (layer 6); a draft that is handed in.
-/
import Derived.Test.YtkaoflndbcfodaaGreatDq
namespace Go.Proofs.YtkaoflndbcfodaaGreat
open Go.ChangeShapes Go.WideShapes Go.ChangeAt Go.RowKit

/-- a draft's bytes, where nobody draws yet -/
structure DrA (w : World) (p : Option Addr) (B : List Int) (n wd : Int) : Prop where
  els : ∀ i b, B[i]? = some b → ∃ a, p = some a ∧ w.cell? (a.add i) = some (.int .u8 b)
  rng : ∀ b ∈ B, 0 ≤ b ∧ b < 256
  len : B.length ≤ 9223372036854775807
  nb : 0 ≤ n ∧ n < 256
  wb : 0 ≤ wd ∧ wd < 256
theorem DrA.below {w w' : World} {p : Option Addr} {B : List Int} {n wd : Int} (h : DrA w p B n wd) (hb : Below w.heap.size w w') : DrA w' p B n wd :=
  ⟨fun i b hb2 => by
    obtain ⟨a, ha, hc⟩ := h.els i b hb2
    exact ⟨a, ha, (hb.cell (World.block_lt_of_cell? _ _ hc)).trans hc⟩, h.rng, h.len, h.nb, h.wb⟩
theorem DrA.box {w : World} {p : Option Addr} {B : List Int} {n wd : Int} (h : DrA w p B n wd) (c : Nat) (k : Int) : DrS (w.alloc (.cells (drC p c B n wd k) 24)) w.heap.size p c B n wd k :=
  ⟨Blk.new _ _ _, fun i b hb => by
    obtain ⟨a, ha, hc⟩ := h.els i b hb
    exact ⟨a, ha, by have := World.block_lt_of_cell? _ _ hc; rw [add_block] at this; omega, cellA _ hc⟩, h.rng, h.len, h.nb, h.wb⟩
theorem res_ctt {P : Program} {fn : Func} {p q r : Tmp} {ty : TypeId} (h : fn.results = #[.cell p ty, .tmp q, .tmp r]) {tmps : Array Value} {w : World} {g : Nat} {v : Value}
    (hp : tmps.getD p undef = .pointer (some ⟨g, 0, none⟩)) (hrun : (loadVar ty ⟨g, 0, none⟩).run P w = .ok v w) :
    (results fn tmps).run P w = .ok (.tuple #[v, tmps.getD q undef, tmps.getD r undef]) w := by
  have hp' : tmps[p]?.getD undef = .pointer (some ⟨g, 0, none⟩) := by simpa using hp
  simp [results, h, hp', asAddr, hrun]
/-- how many requests a draft has -/
def dpN (n : Int) : Nat := (n % 7).toNat
def dpT (B : List Int) (n wd : Int) : List Rq := drT B wd 0 (dpN n)
def dpV (B : List Int) (n : Int) : Ve := drV B (8 * (dpN n : Int))
def dpL (B : List Int) (n : Int) : List (Int × Int) := drRt B (8 * (dpN n : Int) + 5) 0 (dpN n)
def DpPost (w : World) (B : List Int) (n wd : Int) (e : Ending) (w' : World) : Prop :=
  (∃ q d q' d', e = .returned (.tuple #[.agg (veR (dpV B n)).toArray, .slice q (dpL B n).length d, .slice q' (dpT B n wd).length d']) ∧ ((dpL B n).length ≤ d ∧ d ≤ 9223372036854775807) ∧ ((dpT B n wd).length ≤ d' ∧ d' ≤ 9223372036854775807) ∧
    Els w' q 2 ((dpL B n).map stV) ∧ Els w' q' 10 ((dpT B n wd).map rqV) ∧ (∀ a, q = some a → w.heap.size ≤ a.block) ∧ (∀ a, q' = some a → w.heap.size ≤ a.block)) ∧ Below w.heap.size w w'


set_option maxHeartbeats 2000000 in
set_option maxRecDepth 100000 in
theorem rwithout_calls (p : Option Addr) (c : Nat) (l : List (Int × Int)) (req : Int) (w : World) (hE : Els w p 2 (l.map stV)) (hl : l.length ≤ 1000) :
    Calls Tryz.prog 72 #[.slice p l.length c, .int .i64 req] w fun e w' => (∃ q d, e = .returned (.slice q (woP l req).length d) ∧ ((woP l req).length ≤ d ∧ d ≤ 9223372036854775807) ∧ Els w' q 2 ((woP l req).map stV) ∧ (∀ a, q = some a → w.heap.size ≤ a.block)) ∧ Below w.heap.size w w' := by
  have hb0 := Lib.hid (Below.refl w.heap.size w)
  replace hE := Lib.hid hE
  go_enter Tryz.func72, Tryz.ntmps72
  go_wp2_with fail
  go_loopw [5, 6] (fun s5 s6 wx => ∃ i : Nat, i ≤ l.length ∧ s6 = .int .i64 i ∧ wx.ownsRow w.heap.size 125 2 s5 (woP (l.take i) req).length ((woP (l.take i) req).map stV).flatten ∧ Below w.heap.size w wx) (fun _ s6 _ => l.length - (intOf s6).toNat)
  case atStart => exact ⟨0, Nat.zero_le _, rfl, World.ownsRow_nil _ _ _ _, hb0.out⟩
  case round =>
    clear hb0
    obtain ⟨i, hi, rfl, hO, hb⟩ := hrel
    by_cases hlt : i < l.length
    · have hltI : (i : Int) < (l.length : Int) := by omega
      have s1 : IntKind.i64.wrap ((i : Int) + 1) = (i : Int) + 1 := IntWalk.i64_in _ (by omega)
      obtain ⟨a, rfl⟩ := (hE.out.below hb).some_of (k := i) (by simpa using hlt)
      have hla := (hE.out.below hb).load (P := Tryz.prog) (a := a) rfl (k := i) (by simpa using hlt) (ty := 125) Tryz.underlying125 rfl (by kernel_rfl)
      have hk0 := (hE.out.below hb).cells a rfl i (stV l[i]) 0 (.int .i64 l[i].1) (by rw [List.getElem?_map, List.getElem?_eq_getElem hlt]; rfl) rfl
      rw [Nat.add_zero] at hk0
      rw [List.getElem_map] at hla
      have hws := woP_succ l req hlt
      have hwl := Nat.le_trans (woP_len (l.take i) req) (List.length_take_le i l)
      obtain ⟨r, q, hs⟩ : ∃ r q, l[i] = (r, q) := ⟨_, _, rfl⟩
      rw [hs] at hla hk0 hws
      replace hla : Hid ((loadVar 125 (a.add (i * 2))).run Tryz.prog wr = .ok (.agg #[.int .i64 r, .int .i64 q]) wr) := Lib.hid hla
      have hk0' := Lib.hid (show (loadVar 3 (a.add (i * 2))).run Tryz.prog wr = .ok (.int .i64 r) wr from run_i64 hk0)
      clear hs hk0
      by_cases hr : r = req
      · have d1 : (r != req) = false := by simp [hr]
        have hws2 : Hid (woP (l.take (i + 1)) req = woP (l.take i) req) := Lib.hid (by rw [hws]; dsimp only; rw [if_pos hr, List.append_nil])
        replace hO := Lib.hid hO
        replace hb := Lib.hid hb
        clear hws hr hla
        go_wp2_with (refine wpList_load_v rfl 3 _ rfl (a.add (i * 2)) rfl _ hk0'.out ?_)
        go_roundw
        case rel => exact ⟨i + 1, by omega, by simp, by rw [hws2.out]; exact hO.out, hb.out⟩
        case measure => simp [intOf]; omega
      · have d1 : (r != req) = true := by simp [hr]
        have hws2 : Hid (woP (l.take (i + 1)) req = woP (l.take i) req ++ [(r, q)]) := Lib.hid (by rw [hws]; dsimp only; rw [if_neg hr])
        generalize woP (l.take i) req = R at *
        have hOA := Lib.hid (own_mod hO ((Mod.refl (fun _ => False) _).alloc (.cells (stV (r, q)).toArray 125)) (fun _ _ h => h))
        have hbA := Lib.hid (hb.alloc hb.size (.cells (stV (r, q)).toArray 125))
        have hzA := Lib.hid hbA.out.size
        clear hws hr hO hb
        go_wp2_with (first | (refine wpList_load_v rfl 3 _ rfl (a.add (i * 2)) rfl _ hk0'.out ?_) | (refine wpList_load_v rfl 125 _ rfl (a.add (i * 2)) rfl _ hla.out ?_) | (refine wpList_bs1 rfl 82 1 0 _ rfl (.agg #[.int .i64 r, .int .i64 q]) rfl _ _ (rsl_st r q _) ?_) |
          (refine wpList_appG st_el rfl _ _ rfl w.heap.size hzA.out _ _ _ rfl hOA.out (by omega) _ 1 1 (stV (r, q)) rfl rfl (by omega) (row_cells (Blk.new _ _ _)) (st_one _) ?_; intro v6 w6 hO6 hg6; have hb6 := Lib.hid (grown_low hbA.out (Nat.le_refl _) (Nat.le_refl _) hOA.out hg6); replace hO6 := Lib.hid hO6; clear hg6 hOA hzA hbA))
        go_roundw
        case rel =>
          refine ⟨i + 1, by omega, by simp, ?_, hb6.out⟩
          rw [hws2.out, List.map_append, List.flatten_append, List.length_append]
          simpa using hO6.out
        case measure => simp [intOf]; omega
    · obtain rfl : i = l.length := by omega
      rw [List.take_length] at hO
      have hwl := woP_len l req
      obtain ⟨q, i', d, rfl⟩ := own_isS hO
      obtain ⟨h1, h2, h3, h4⟩ := own_els (R := (woP l req).map stV) (stV_len _) (by rw [List.length_map]; exact hO) (by rw [List.length_map]; omega)
      rw [List.length_map] at h2
      subst h2
      have hcap := own_cap hO
      replace h1 := Lib.hid h1
      replace hb := Lib.hid hb
      replace h4 := Lib.hid (fun a ha => (h4 a ha).1)
      clear hO hE
      go_wp2_with fail
      go_ret
      exact ⟨⟨q, d, rfl, ⟨h3, hcap⟩, h1.out, h4.out⟩, hb.out⟩

section
variable {H : Type} {enc : TypeId × Value → H} {W : World} {base : Nat} {v : Value} {d : DataW H} {q : List MemPlace}
set_option maxRecDepth 100000 in
theorem open_u8 {w : World} {fuel : Nat} {held : Bool} {cs : List Value} {x : DataW H × List MemPlace} (h : DataW.trod enc Tryz.prog w base (fun _ => true) held fuel 5 cs = some x) :
    ∃ b : Int, (0 ≤ b ∧ b < 256) ∧ ∀ (j : Nat) (v : Value), (u8V b)[j]? = some v → cs[j]? = some v := by
  obtain ⟨b, e, _, wb⟩ := DataW.trod_int Tryz.underlying5 h
  refine ⟨b, u8_of wb, fun j v hj => ?_⟩
  match j with
  | 0 => cases hj; rw [e]; rfl
  | j + 1 => simp [u8V] at hj
set_option maxRecDepth 100000 in
/-- the cells of a draft, opened -/
theorem open_dr {w : World} {fuel : Nat} {held : Bool} {cs : List Value} {x : DataW H × List MemPlace} (h : DataW.trod enc Tryz.prog w base (fun _ => true) held fuel 24 cs = some x) :
    ∃ (p : Option Addr) (c : Nat) (B : List Int) (n wd k : Int), DrA w p B n wd ∧ ∀ (j : Nat) (v : Value), (drC p c B n wd k).toList[j]? = some v → cs[j]? = some v := by
  have c5 : Tryz.prog.cellsOf 5 = 1 := by kernel_rfl
  have cS : Tryz.prog.cellsOf 22 = 1 := by kernel_rfl
  obtain ⟨n, en, wn⟩ := fld_int Tryz.underlying24 h 1 _ rfl c5 Tryz.underlying5
  obtain ⟨wd, ew, ww⟩ := fld_int Tryz.underlying24 h 2 _ rfl c5 Tryz.underlying5
  obtain ⟨k, ek, wk⟩ := fld_int Tryz.underlying24 h 3 _ rfl c_int Tryz.underlying3
  obtain ⟨n0, y0, h0⟩ := fld_of Tryz.underlying24 h 0 _ rfl
  obtain ⟨p, L, c, e, hL, hLc, hcm, hb⟩ := open_rows (n := 1) (0 : Int) u8V (fun b => 0 ≤ b ∧ b < 256) (fun _ => rfl) Tryz.underlying22 c5 (fun _ _ _ h => open_u8 h) h0
  have e0 : cs[0]? = some (.slice p L.length c) := by
    have e2 : (cs.drop 0).take (Tryz.prog.cellsOf 22) = [.slice p L.length c] := e
    rw [cS] at e2
    exact take1 e2
  refine ⟨p, c, L, n, wd, k, ⟨fun i b hb => ?_, hb, by omega, u8_of wn, u8_of ww⟩, fun j v hj => ?_⟩
  · cases p with
    | none =>
      have := hL.nil rfl
      simp at this
      subst this
      simp at hb
    | some a =>
      have := hL.cells a rfl i (u8V b) 0 (.int .u8 b) (by rw [List.getElem?_map, hb]; rfl) rfl
      rw [Nat.mul_one, Nat.add_zero] at this
      exact ⟨a, rfl, this⟩
  · match j with
    | 0 => cases hj; exact e0
    | 1 => cases hj; exact en
    | 2 => cases hj; exact ew
    | 3 => cases hj; exact ek
    | j + 4 => simp [drC] at hj
set_option maxRecDepth 100000 in
theorem arg_draft (hv : Value.okWide Tryz.prog W .any base 24 v) (h : DataW.Trod enc Tryz.prog W 0 (fun _ => true) true 24 v d q) :
    ∃ (p : Option Addr) (c : Nat) (B : List Int) (n wd k : Int), DrA W p B n wd ∧ v = .agg (drC p c B n wd k) := by
  obtain ⟨C, rfl, hsz0⟩ := okWide_struct Tryz.underlying24 hv
  have c42 : Tryz.prog.cellsOf 24 = 4 := by kernel_rfl
  obtain ⟨fuel, hf⟩ := h
  obtain ⟨p, c, B, n, wd, k, hA, hr⟩ := open_dr hf
  have e : C = (drC p c B n wd k).toList.toArray := agg_eq (by rw [hsz0, c42]; rfl) hr
  exact ⟨p, c, B, n, wd, k, hA, by rw [e]⟩
end
end Go.Proofs.YtkaoflndbcfodaaGreat
