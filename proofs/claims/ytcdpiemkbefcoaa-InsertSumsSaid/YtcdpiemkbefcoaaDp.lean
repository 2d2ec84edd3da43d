/-
  Drafts (layer 7): Parts; the document's Without (layer 6); a draft that is handed in.
-/
import Derived.Test.YtcdpiemkbefcoaaDq
namespace Go.Proofs.Ytcdpiemkbefcoaa
open Go.ChangeShapes Go.WideShapes Go.ChangeAt Go.RowKit

/-- a draft's bytes, where nobody draws yet -/
structure DrA (w : World) (p : Option Addr) (B : List Int) (n wd : Int) : Prop where
  els : ∀ i b, B[i]? = some b → ∃ a, p = some a ∧ w.cell? (a.add i) = some (.int .u8 b)
  rng : ∀ b ∈ B, 0 ≤ b ∧ b < 256
  len : B.length ≤ 9223372036854775807
  nb : 0 ≤ n ∧ n < 256
  wb : 0 ≤ wd ∧ wd < 256
theorem DrA.below {w w' : World} {p : Option Addr} {B : List Int} {n wd : Int} (h : DrA w p B n wd) (hb : Below w.heap.size w w') : DrA w' p B n wd :=
  ⟨fun i b hb2 => by
    obtain ⟨a, ha, hc⟩ := h.els i b hb2
    exact ⟨a, ha, (hb.cell (World.block_lt_of_cell? _ _ hc)).trans hc⟩, h.rng, h.len, h.nb, h.wb⟩
theorem DrA.box {w : World} {p : Option Addr} {B : List Int} {n wd : Int} (h : DrA w p B n wd) (c : Nat) (k : Int) : DrS (w.alloc (.cells (drC p c B n wd k) 24)) w.heap.size p c B n wd k :=
  ⟨Blk.new _ _ _, fun i b hb => by
    obtain ⟨a, ha, hc⟩ := h.els i b hb
    exact ⟨a, ha, by have := World.block_lt_of_cell? _ _ hc; rw [add_block] at this; omega, cellA _ hc⟩, h.rng, h.len, h.nb, h.wb⟩
theorem res_ctt {P : Program} {fn : Func} {p q r : Tmp} {ty : TypeId} (h : fn.results = #[.cell p ty, .tmp q, .tmp r]) {tmps : Array Value} {w : World} {g : Nat} {v : Value}
    (hp : tmps.getD p undef = .pointer (some ⟨g, 0, none⟩)) (hrun : (loadVar ty ⟨g, 0, none⟩).run P w = .ok v w) :
    (results fn tmps).run P w = .ok (.tuple #[v, tmps.getD q undef, tmps.getD r undef]) w := by
  have hp' : tmps[p]?.getD undef = .pointer (some ⟨g, 0, none⟩) := by simpa using hp
  simp [results, h, hp', asAddr, hrun]
/-- how many requests a draft has -/
def dpN (n : Int) : Nat := (n % 7).toNat
def dpT (B : List Int) (n wd : Int) : List Rq := drT B wd 0 (dpN n)
def dpV (B : List Int) (n : Int) : Ve := drV B (8 * (dpN n : Int))
def dpL (B : List Int) (n : Int) : List (Int × Int) := drRt B (8 * (dpN n : Int) + 5) 0 (dpN n)
def DpPost (w : World) (B : List Int) (n wd : Int) (e : Ending) (w' : World) : Prop :=
  (∃ q d q' d', e = .returned (.tuple #[.agg (veR (dpV B n)).toArray, .slice q (dpL B n).length d, .slice q' (dpT B n wd).length d']) ∧ ((dpL B n).length ≤ d ∧ d ≤ 9223372036854775807) ∧ ((dpT B n wd).length ≤ d' ∧ d' ≤ 9223372036854775807) ∧
    Els w' q 2 ((dpL B n).map stV) ∧ Els w' q' 10 ((dpT B n wd).map rqV) ∧ (∀ a, q = some a → w.heap.size ≤ a.block) ∧ (∀ a, q' = some a → w.heap.size ≤ a.block)) ∧ Below w.heap.size w w'

set_option maxHeartbeats 4000000 in
set_option maxRecDepth 100000 in
theorem dparts_calls (p : Option Addr) (c : Nat) (B : List Int) (n wd k : Int) (w : World) (hA : DrA w p B n wd) :
    Calls Try.prog 25 #[.agg (drC p c B n wd k)] w (DpPost w B n wd) := by
  have hnb := hA.nb
  have e1 := Int.emod_nonneg n (show (7 : Int) ≠ 0 by omega)
  have e2 := Int.emod_lt_of_pos n (show (0 : Int) < 7 by omega)
  have hND : dpN n = (n % 7).toNat := rfl
  have hTD : dpT B n wd = drT B wd 0 (dpN n) := rfl
  have hVD : dpV B n = drV B (8 * (dpN n : Int)) := rfl
  have hLD : dpL B n = drRt B (8 * (dpN n : Int) + 5) 0 (dpN n) := rfl
  unfold DpPost
  generalize dpN n = N at *
  have hNI : (N : Int) = n % 7 := by omega
  have hN6 : N ≤ 6 := by omega
  obtain ⟨C, hC⟩ : ∃ C, drC p c B n wd k = C := ⟨_, rfl⟩
  have hS := hA.box c k
  rw [hC] at hS ⊢
  obtain ⟨Z, hZ⟩ : ∃ Z : Array Value, Z = #[.int .i64 0, .int .i64 0, .int .i64 0, .int .i64 0, .int .i64 0] := ⟨_, rfl⟩
  have hZs : Z.size = 5 := by rw [hZ]; rfl
  have hS1 := hS.mod ((Mod.refl (fun _ => False) _).alloc (.cells Z 28))
  have hB1 := Blk.new' w (.cells C 24) Z 28
  have hb1 := (new_below w (.cells C 24)).alloc (by simp) (.cells Z 28)
  replace hS1 := Lib.hid hS1
  replace hB1 := Lib.hid hB1
  replace hb1 := Lib.hid hb1
  clear hS hA hC
  have hT := Lib.hid (fun wx (h : DrS wx w.heap.size p c B n wd 0) => drequests_calls w.heap.size p c B n wd 0 N wx h (by omega) (by omega))
  have hV := Lib.hid (fun wx (h : DrS wx w.heap.size p c B n wd (8 * (N : Int))) => dvehicle_calls w.heap.size p c B n wd (8 * (N : Int)) wx h (by omega))
  have hL := Lib.hid (fun wx (h : DrS wx w.heap.size p c B n wd (8 * (N : Int) + 5)) => (by
    have := droute_calls w.heap.size p c B n wd (8 * (N : Int) + 5) 0 N wx h (by omega) (by omega) (by omega)
    rwa [Int.zero_add] at this : Calls Try.prog 50 #[.pointer (some ⟨w.heap.size, 0, none⟩), .int .i64 0, .int .i64 (N : Int)] wx fun e w' =>
      (∃ q d, e = .returned (.slice q (drRt B (8 * (N : Int) + 5) 0 N).length d) ∧ (drRt B (8 * (N : Int) + 5) 0 N).length ≤ d ∧ d ≤ 9223372036854775807 ∧ Els w' q 2 ((drRt B (8 * (N : Int) + 5) 0 N).map stV) ∧ (∀ a, q = some a → wx.heap.size ≤ a.block)) ∧ DrS w' w.heap.size p c B n wd (8 * (N : Int) + 5 + 2 * (N : Int)) ∧ Mod (· = w.heap.size) wx w'))
  rw [Int.zero_add] at hT
  rw [← hTD] at hT
  rw [← hVD] at hV
  rw [← hLD] at hL
  clear hTD hVD hLD hND
  generalize dpT B n wd = T at *
  generalize dpV B n = V at *
  generalize dpL B n = L at *
  go_enter Try.func25, Try.ntmps25
  go_upto_region 1 with fail
  rw [← hZ]
  clear hZ
  refine wp_world' (fun wx => Blk wx (w.heap.size + 1) Z 28 ∧ DrS wx w.heap.size p c B n wd k ∧ Below w.heap.size w wx) ⟨hB1.out, hS1.out, hb1.out⟩ ?_
  clear hB1 hS1 hb1
  rintro w1 ⟨hB, hS, hb⟩
  have k3 := hS.blk.cell (i := 3) (v := .int .i64 k) rfl
  have f3 := hS.blk.froz 3
  have hM2 := (Mod.refl (· = w.heap.size) w1).setCell (p := ⟨w.heap.size, 3, none⟩) (fun _ => rfl) (.int .i64 0)
  have P2 := Lib.hid (show Blk (w1.setCell ⟨w.heap.size, 3, none⟩ (.int .i64 0)) (w.heap.size + 1) Z 28 ∧ DrS (w1.setCell ⟨w.heap.size, 3, none⟩ (.int .i64 0)) w.heap.size p c B n wd 0 ∧ Below w.heap.size w (w1.setCell ⟨w.heap.size, 3, none⟩ (.int .i64 0)) from
    ⟨hB.mod hM2 (by omega), hS.put 0, hb.trans (hM2.below hb.size (fun k h => by have : k = w.heap.size := h; omega))⟩)
  clear hB hS hb hM2
  go_upto_region 2 with fail
  refine wp_world' (fun wx => Blk wx (w.heap.size + 1) Z 28 ∧ DrS wx w.heap.size p c B n wd 0 ∧ Below w.heap.size w wx) P2.out ?_
  clear P2 k3 f3
  rintro w2 ⟨hB, hS, hb⟩
  have k1 := hS.blk.cell (i := 1) (v := .int .u8 n) rfl
  replace hB := Lib.hid hB
  replace hS := Lib.hid hS
  replace hb := Lib.hid hb
  go_upto_region 3 with fail
  rw [← hNI]
  clear k1 hNI e1 e2
  go_wp2_with fail
  refine (hT.out _ hS.out).mono ?_
  rintro e w3 ⟨⟨qT, dT, rfl, hdT, hdT2, hET, hqT⟩, hS3, hM3⟩
  have hB3 := Lib.hid (hB.out.mod hM3 (by omega))
  have hb3 := Lib.hid (hb.out.trans (hM3.below hb.out.size (fun k h => by have : k = w.heap.size := h; omega)))
  have hz3 : w.heap.size + 1 < w2.heap.size := hB.out.lt
  replace hET := Lib.hid hET
  clear hT hB hS hb hM3
  go_wp2_with fail
  refine (hV.out _ hS3).mono ?_
  rintro e w4 ⟨rfl, hS4, hM4⟩
  have hB4 := Lib.hid (hB3.out.mod hM4 (by omega))
  have hb4 := Lib.hid (hb3.out.trans (hM4.below hb3.out.size (fun k h => by have : k = w.heap.size := h; omega)))
  have hET4 := Lib.hid (show Els w4 qT 10 (T.map rqV) from ⟨hET.out.nil, hET.out.len, hET.out.big, fun a ha k x j v hk hj => hM4.cell_of (by rw [add_block]; have := hqT a ha; omega) (hET.out.cells a ha k x j v hk hj)⟩)
  clear hV hB3 hS3 hb3 hM4 hET
  go_wp2_with fail
  refine (hL.out _ hS4).mono ?_
  rintro e w5 ⟨⟨qL, dL, rfl, hdL, hdL2, hEL, hqL⟩, hS5, hM5⟩
  have hB5 := Lib.hid (hB4.out.mod hM5 (by omega))
  have hb5 := Lib.hid (hb4.out.trans (hM5.below hb4.out.size (fun k h => by have : k = w.heap.size := h; omega)))
  have hET5 := Lib.hid (show Els w5 qT 10 (T.map rqV) from ⟨hET4.out.nil, hET4.out.len, hET4.out.big, fun a ha k x j v hk hj => hM5.cell_of (by rw [add_block]; have := hqT a ha; omega) (hET4.out.cells a ha k x j v hk hj)⟩)
  have hz4 : w.heap.size + 1 < w4.heap.size := hB4.out.lt
  replace hEL := Lib.hid hEL
  clear hL hB4 hS4 hb4 hM5 hET4 hS5
  go_wp2_with (refine wpList_store_row rfl 28 _ _ rfl rfl (w.heap.size + 1) rfl _ (veR V).toArray _ hB5.out rfl hZs (by simp [veR, Value.oneCell']) (by kernel_rfl) ?_; intro w9 hB9 hM9)
  have hb9 := Lib.hid (hb5.out.trans (hM9.below hb5.out.size (fun k h => by have : k = w.heap.size + 1 := h; omega)))
  have hET9 := Lib.hid (show Els w9 qT 10 (T.map rqV) from ⟨hET5.out.nil, hET5.out.len, hET5.out.big, fun a ha k x j v hk hj => hM9.cell_of (by rw [add_block]; have := hqT a ha; omega) (hET5.out.cells a ha k x j v hk hj)⟩)
  have hEL9 := Lib.hid (show Els w9 qL 2 (L.map stV) from ⟨hEL.out.nil, hEL.out.len, hEL.out.big, fun a ha k x j v hk hj => hM9.cell_of (by rw [add_block]; have := hqL a ha; omega) (hEL.out.cells a ha k x j v hk hj)⟩)
  exact bodyPost_ret (res_ctt (v := .agg (veR V).toArray) rfl rfl (run_load_row' (P := Try.prog) w9 _ 28 _ 28 _ hB9 Try.underlying28 rfl (by kernel_rfl))) rfl ⟨⟨qL, dL, qT, dT, rfl, ⟨hdL, hdL2⟩, ⟨hdT, hdT2⟩, hEL9.out, hET9.out, fun a ha => by have := hqL a ha; omega, fun a ha => by have := hqT a ha; omega⟩, hb9.out⟩

/-- a row without a request -/
def woP (l : List (Int × Int)) (req : Int) : List (Int × Int) := l.filter fun s => s.1 != req
theorem woP_succ (l : List (Int × Int)) (req : Int) {k : Nat} (hk : k < l.length) : woP (l.take (k + 1)) req = woP (l.take k) req ++ (if l[k].1 = req then [] else [l[k]]) := by
  unfold woP
  rw [List.take_succ_eq_append_getElem hk, List.filter_append]
  congr 1
  by_cases h : l[k].1 = req
  · simp [h]
  · simp [h]
theorem woP_len (l : List (Int × Int)) (req : Int) : (woP l req).length ≤ l.length := List.length_filter_le _ _

set_option maxHeartbeats 2000000 in
set_option maxRecDepth 100000 in
theorem rwithout_calls (p : Option Addr) (c : Nat) (l : List (Int × Int)) (req : Int) (w : World) (hE : Els w p 2 (l.map stV)) (hl : l.length ≤ 1000) :
    Calls Try.prog 28 #[.slice p l.length c, .int .i64 req] w fun e w' => (∃ q d, e = .returned (.slice q (woP l req).length d) ∧ ((woP l req).length ≤ d ∧ d ≤ 9223372036854775807) ∧ Els w' q 2 ((woP l req).map stV) ∧ (∀ a, q = some a → w.heap.size ≤ a.block)) ∧ Below w.heap.size w w' := by
  have hb0 := Lib.hid (Below.refl w.heap.size w)
  replace hE := Lib.hid hE
  go_enter Try.func28, Try.ntmps28
  go_wp2_with fail
  go_loopw [5, 6] (fun s5 s6 wx => ∃ i : Nat, i ≤ l.length ∧ s6 = .int .i64 i ∧ wx.ownsRow w.heap.size 55 2 s5 (woP (l.take i) req).length ((woP (l.take i) req).map stV).flatten ∧ Below w.heap.size w wx) (fun _ s6 _ => l.length - (intOf s6).toNat)
  case atStart => exact ⟨0, Nat.zero_le _, rfl, World.ownsRow_nil _ _ _ _, hb0.out⟩
  case round =>
    clear hb0
    obtain ⟨i, hi, rfl, hO, hb⟩ := hrel
    by_cases hlt : i < l.length
    · have hltI : (i : Int) < (l.length : Int) := by omega
      have s1 : IntKind.i64.wrap ((i : Int) + 1) = (i : Int) + 1 := IntWalk.i64_in _ (by omega)
      obtain ⟨a, rfl⟩ := (hE.out.below hb).some_of (k := i) (by simpa using hlt)
      have hla := (hE.out.below hb).load (P := Try.prog) (a := a) rfl (k := i) (by simpa using hlt) (ty := 55) Try.underlying55 rfl (by kernel_rfl)
      have hk0 := (hE.out.below hb).cells a rfl i (stV l[i]) 0 (.int .i64 l[i].1) (by rw [List.getElem?_map, List.getElem?_eq_getElem hlt]; rfl) rfl
      rw [Nat.add_zero] at hk0
      rw [List.getElem_map] at hla
      have hws := woP_succ l req hlt
      have hwl := Nat.le_trans (woP_len (l.take i) req) (List.length_take_le i l)
      obtain ⟨r, q, hs⟩ : ∃ r q, l[i] = (r, q) := ⟨_, _, rfl⟩
      rw [hs] at hla hk0 hws
      replace hla : Hid ((loadVar 55 (a.add (i * 2))).run Try.prog wr = .ok (.agg #[.int .i64 r, .int .i64 q]) wr) := Lib.hid hla
      have hk0' := Lib.hid (show (loadVar 3 (a.add (i * 2))).run Try.prog wr = .ok (.int .i64 r) wr from run_i64 hk0)
      clear hs hk0
      by_cases hr : r = req
      · have d1 : (r != req) = false := by simp [hr]
        have hws2 : Hid (woP (l.take (i + 1)) req = woP (l.take i) req) := Lib.hid (by rw [hws]; dsimp only; rw [if_pos hr, List.append_nil])
        replace hO := Lib.hid hO
        replace hb := Lib.hid hb
        clear hws hr hla
        go_wp2_with (refine wpList_load_v rfl 3 _ rfl (a.add (i * 2)) rfl _ hk0'.out ?_)
        go_roundw
        case rel => exact ⟨i + 1, by omega, by simp, by rw [hws2.out]; exact hO.out, hb.out⟩
        case measure => simp [intOf]; omega
      · have d1 : (r != req) = true := by simp [hr]
        have hws2 : Hid (woP (l.take (i + 1)) req = woP (l.take i) req ++ [(r, q)]) := Lib.hid (by rw [hws]; dsimp only; rw [if_neg hr])
        generalize woP (l.take i) req = R at *
        have hOA := Lib.hid (own_mod hO ((Mod.refl (fun _ => False) _).alloc (.cells (stV (r, q)).toArray 55)) (fun _ _ h => h))
        have hbA := Lib.hid (hb.alloc hb.size (.cells (stV (r, q)).toArray 55))
        have hzA := Lib.hid hbA.out.size
        clear hws hr hO hb
        go_wp2_with (first | (refine wpList_load_v rfl 3 _ rfl (a.add (i * 2)) rfl _ hk0'.out ?_) | (refine wpList_load_v rfl 55 _ rfl (a.add (i * 2)) rfl _ hla.out ?_) | (refine wpList_bs1 rfl 29 1 0 _ rfl (.agg #[.int .i64 r, .int .i64 q]) rfl _ _ (rsl_st r q _) ?_) |
          (refine wpList_appG st_el rfl _ _ rfl w.heap.size hzA.out _ _ _ rfl hOA.out (by omega) _ 1 1 (stV (r, q)) rfl rfl (by omega) (row_cells (Blk.new _ _ _)) (st_one _) ?_; intro v6 w6 hO6 hg6; have hb6 := Lib.hid (grown_low hbA.out (Nat.le_refl _) (Nat.le_refl _) hOA.out hg6); replace hO6 := Lib.hid hO6; clear hg6 hOA hzA hbA))
        go_roundw
        case rel =>
          refine ⟨i + 1, by omega, by simp, ?_, hb6.out⟩
          rw [hws2.out, List.map_append, List.flatten_append, List.length_append]
          simpa using hO6.out
        case measure => simp [intOf]; omega
    · obtain rfl : i = l.length := by omega
      rw [List.take_length] at hO
      have hwl := woP_len l req
      obtain ⟨q, i', d, rfl⟩ := own_isS hO
      obtain ⟨h1, h2, h3, h4⟩ := own_els (R := (woP l req).map stV) (stV_len _) (by rw [List.length_map]; exact hO) (by rw [List.length_map]; omega)
      rw [List.length_map] at h2
      subst h2
      have hcap := own_cap hO
      replace h1 := Lib.hid h1
      replace hb := Lib.hid hb
      replace h4 := Lib.hid (fun a ha => (h4 a ha).1)
      clear hO hE
      go_wp2_with fail
      go_ret
      exact ⟨⟨q, d, rfl, ⟨h3, hcap⟩, h1.out, h4.out⟩, hb.out⟩

section
variable {H : Type} {enc : TypeId × Value → H} {W : World} {base : Nat} {v : Value} {d : DataW H} {q : List MemPlace}
set_option maxRecDepth 100000 in
theorem open_u8 {w : World} {fuel : Nat} {held : Bool} {cs : List Value} {x : DataW H × List MemPlace} (h : DataW.trod enc Try.prog w base (fun _ => true) held fuel 5 cs = some x) :
    ∃ b : Int, (0 ≤ b ∧ b < 256) ∧ ∀ (j : Nat) (v : Value), (u8V b)[j]? = some v → cs[j]? = some v := by
  obtain ⟨b, e, _, wb⟩ := DataW.trod_int Try.underlying5 h
  refine ⟨b, u8_of wb, fun j v hj => ?_⟩
  match j with
  | 0 => cases hj; rw [e]; rfl
  | j + 1 => simp [u8V] at hj
set_option maxRecDepth 100000 in
/-- the cells of a draft, opened -/
theorem open_dr {w : World} {fuel : Nat} {held : Bool} {cs : List Value} {x : DataW H × List MemPlace} (h : DataW.trod enc Try.prog w base (fun _ => true) held fuel 24 cs = some x) :
    ∃ (p : Option Addr) (c : Nat) (B : List Int) (n wd k : Int), DrA w p B n wd ∧ ∀ (j : Nat) (v : Value), (drC p c B n wd k).toList[j]? = some v → cs[j]? = some v := by
  have c5 : Try.prog.cellsOf 5 = 1 := by kernel_rfl
  have cS : Try.prog.cellsOf 22 = 1 := by kernel_rfl
  obtain ⟨n, en, wn⟩ := fld_int Try.underlying24 h 1 _ rfl c5 Try.underlying5
  obtain ⟨wd, ew, ww⟩ := fld_int Try.underlying24 h 2 _ rfl c5 Try.underlying5
  obtain ⟨k, ek, wk⟩ := fld_int Try.underlying24 h 3 _ rfl c_int Try.underlying3
  obtain ⟨n0, y0, h0⟩ := fld_of Try.underlying24 h 0 _ rfl
  obtain ⟨p, L, c, e, hL, hLc, hcm, hb⟩ := open_rows (n := 1) (0 : Int) u8V (fun b => 0 ≤ b ∧ b < 256) (fun _ => rfl) Try.underlying22 c5 (fun _ _ _ h => open_u8 h) h0
  have e0 : cs[0]? = some (.slice p L.length c) := by
    have e2 : (cs.drop 0).take (Try.prog.cellsOf 22) = [.slice p L.length c] := e
    rw [cS] at e2
    exact take1 e2
  refine ⟨p, c, L, n, wd, k, ⟨fun i b hb => ?_, hb, by omega, u8_of wn, u8_of ww⟩, fun j v hj => ?_⟩
  · cases p with
    | none =>
      have := hL.nil rfl
      simp at this
      subst this
      simp at hb
    | some a =>
      have := hL.cells a rfl i (u8V b) 0 (.int .u8 b) (by rw [List.getElem?_map, hb]; rfl) rfl
      rw [Nat.mul_one, Nat.add_zero] at this
      exact ⟨a, rfl, this⟩
  · match j with
    | 0 => cases hj; exact e0
    | 1 => cases hj; exact en
    | 2 => cases hj; exact ew
    | 3 => cases hj; exact ek
    | j + 4 => simp [drC] at hj
set_option maxRecDepth 100000 in
theorem arg_draft (hv : Value.okWide Try.prog W .any base 24 v) (h : DataW.Trod enc Try.prog W 0 (fun _ => true) true 24 v d q) :
    ∃ (p : Option Addr) (c : Nat) (B : List Int) (n wd k : Int), DrA W p B n wd ∧ v = .agg (drC p c B n wd k) := by
  obtain ⟨C, rfl, hsz0⟩ := okWide_struct Try.underlying24 hv
  have c42 : Try.prog.cellsOf 24 = 4 := by kernel_rfl
  obtain ⟨fuel, hf⟩ := h
  obtain ⟨p, c, B, n, wd, k, hA, hr⟩ := open_dr hf
  have e : C = (drC p c B n wd k).toList.toArray := agg_eq (by rw [hsz0, c42]; rfl) hr
  exact ⟨p, c, B, n, wd, k, hA, by rw [e]⟩
end
end Go.Proofs.Ytcdpiemkbefcoaa
