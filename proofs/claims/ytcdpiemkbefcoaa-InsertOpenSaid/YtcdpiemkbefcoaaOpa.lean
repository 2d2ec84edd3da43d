/-
  'InsertOpen': it returns true.
-/
import Derived.Test.YtcdpiemkbefcoaaOpw
import Derived.Test.YtcdpiemkbefcoaaWk
namespace Go.Proofs.Ytcdpiemkbefcoaa
open Go.RowKit

/-- so many requests with wide windows, the others as they were -/
def opK (T : List Rq) (k : Nat) : List Rq := (T.take k).map opR ++ T.drop k
theorem opK_zero (T : List Rq) : opK T 0 = T := rfl
theorem opK_all (T : List Rq) : opK T T.length = T.map opR := by simp [opK]
theorem opK_at (T : List Rq) (k m : Nat) : (opK T k)[m]? = if m < k then (T[m]?).map opR else T[m]? := by
  unfold opK
  by_cases hm : m < k
  · rw [if_pos hm]
    by_cases hT : m < T.length
    · rw [List.getElem?_append_left (by simp; omega), List.getElem?_map, List.getElem?_take_of_lt hm]
    · rw [List.getElem?_eq_none (by simp; omega), List.getElem?_eq_none (by omega)]; rfl
  · rw [if_neg hm]
    by_cases hk : k ≤ T.length
    · rw [List.getElem?_append_right (by simp; omega), List.length_map, List.length_take, Nat.min_eq_left hk, List.getElem?_drop]
      congr 1
      omega
    · rw [List.getElem?_eq_none (by simp; omega), List.getElem?_eq_none (by omega)]
/-- the cells of a row whose requests are so -/
def RqIn (C : Array Value) (R : List Rq) : Prop := ∀ (m : Nat) (q : Rq) (j : Nat) (v : Value), R[m]? = some q → (rqV q)[j]? = some v → C[m * 10 + j]? = some v
theorem set4_at (C : Array Value) (a b c d : Nat) (u1 u2 u3 u4 : Value) (p : Nat) (hp : p < C.size) :
    ((((C.setIfInBounds a u1).setIfInBounds b u2).setIfInBounds c u3).setIfInBounds d u4)[p]? = if d = p then some u4 else if c = p then some u3 else if b = p then some u2 else if a = p then some u1 else C[p]? := by
  rw [Array.getElem?_setIfInBounds, Array.getElem?_setIfInBounds, Array.getElem?_setIfInBounds, Array.getElem?_setIfInBounds]
  simp only [Array.size_setIfInBounds]
  by_cases h1 : d = p
  · rw [if_pos h1, if_pos h1, if_pos (by omega)]
  · rw [if_neg h1, if_neg h1]
    by_cases h2 : c = p
    · rw [if_pos h2, if_pos h2, if_pos (by omega)]
    · rw [if_neg h2, if_neg h2]
      by_cases h3 : b = p
      · rw [if_pos h3, if_pos h3, if_pos (by omega)]
      · rw [if_neg h3, if_neg h3]
        by_cases h4 : a = p
        · rw [if_pos h4, if_pos h4, if_pos (by omega)]
        · rw [if_neg h4, if_neg h4]
theorem rqIn_step {C : Array Value} {T : List Rq} {k : Nat} (h : RqIn C (opK T k)) (hk : k < T.length) :
    RqIn ((((C.setIfInBounds (k * 10 + 4) (.int .i64 0)).setIfInBounds (k * 10 + 4 + 1) (.int .i64 4000)).setIfInBounds (k * 10 + 6) (.int .i64 0)).setIfInBounds (k * 10 + 6 + 1) (.int .i64 4000)) (opK T (k + 1)) := by
  intro m q j v hm hj
  have hj10 : j < 10 := (List.getElem?_eq_some_iff.1 hj).1
  rw [opK_at] at hm
  by_cases hmk : m = k
  · rw [if_pos (by omega), hmk, List.getElem?_eq_getElem hk] at hm
    simp only [Option.map_some, Option.some.injEq] at hm
    obtain ⟨u, hu⟩ : ∃ u, (rqV T[k])[j]? = some u := ⟨_, List.getElem?_eq_getElem (show j < (rqV T[k]).length from hj10)⟩
    have hold : C[m * 10 + j]? = some u := h m T[k] j u (by rw [opK_at, if_neg (by omega), hmk, List.getElem?_eq_getElem hk]) hu
    have hlt := (Array.getElem?_eq_some_iff.1 hold).1
    rw [set4_at _ _ _ _ _ _ _ _ _ _ hlt]
    rw [← hm] at hj
    subst hmk
    by_cases h7 : j = 7
    · subst h7; rw [if_pos (by omega)]; exact hj
    by_cases h6 : j = 6
    · subst h6; rw [if_neg (by omega), if_pos (by omega)]; exact hj
    by_cases h5 : j = 5
    · subst h5; rw [if_neg (by omega), if_neg (by omega), if_pos (by omega)]; exact hj
    by_cases h4 : j = 4
    · subst h4; rw [if_neg (by omega), if_neg (by omega), if_neg (by omega), if_pos (by omega)]; exact hj
    rw [if_neg (by omega), if_neg (by omega), if_neg (by omega), if_neg (by omega), hold, ← hu, ← hj]
    have hd : j = 0 ∨ j = 1 ∨ j = 2 ∨ j = 3 ∨ j = 8 ∨ j = 9 := by omega
    rcases hd with rfl | rfl | rfl | rfl | rfl | rfl <;> rfl
  · have hold : C[m * 10 + j]? = some v := h m q j v (by
      rw [opK_at]
      by_cases h1 : m < k
      · rw [if_pos (by omega)] at hm; rw [if_pos h1]; exact hm
      · rw [if_neg (by omega)] at hm; rw [if_neg h1]; exact hm) hj
    have hlt := (Array.getElem?_eq_some_iff.1 hold).1
    rw [set4_at _ _ _ _ _ _ _ _ _ _ hlt, if_neg (by omega), if_neg (by omega), if_neg (by omega), if_neg (by omega)]
    exact hold

theorem own_blk {w : World} {base n k cap : Nat} {E : TypeId} {p : Option Addr} {xs : List Value} (h : w.ownsRow base E n (.slice p k cap) k xs) (hk : 0 < k) :
    ∃ (g : Nat) (C : Array Value), p = some ⟨g, 0, none⟩ ∧ Blk w g C E ∧ base ≤ g ∧ ∀ (j : Nat) (v : Value), xs[j]? = some v → C[j]? = some v := by
  rcases h.2 with ⟨hv, _⟩ | ⟨g, cap', cur, hv, hg, hh, _, _, _, ht⟩
  · simp only [Value.slice.injEq] at hv
    omega
  · simp only [Value.slice.injEq] at hv
    refine ⟨g, cur, hv.1, hh, hg, fun j v hj => ?_⟩
    rw [← ht] at hj
    have hlt := (List.getElem?_eq_some_iff.1 hj).1
    rw [List.length_take] at hlt
    rw [List.getElem?_take_of_lt (by omega)] at hj
    simpa using hj
theorem rsl_rqZ (w : World) : (Instr.buildSlice 30 0 #[]).run Try.prog w = .ok (.slice (some ⟨w.heap.size, 0, none⟩) 0 0) (w.alloc (.cells #[] 47)) := by kernel_rfl
theorem rqIn_of {C : Array Value} {R : List Rq} (h : ∀ (j : Nat) (v : Value), (R.map rqV).flatten[j]? = some v → C[j]? = some v) : RqIn C R := fun m q j v hm hj =>
  h _ v (flat_at (n := 10) (R.map rqV) m j (rqV q) v (rqV_len R) (by rw [List.getElem?_map, hm]; rfl) hj)
theorem rqIn_els {w : World} {g : Nat} {C : Array Value} {R : List Rq} {E : TypeId} (h : RqIn C R) (hB : Blk w g C E) (hl : R.length ≤ 1000) : Els w (some ⟨g, 0, none⟩) 10 (R.map rqV) :=
  ⟨fun e => (by cases e), rqV_len R, by rw [List.length_map]; omega, fun a ha k x j v hk hj => by
    cases ha
    rw [List.getElem?_map] at hk
    simp only [Option.map_eq_some_iff] at hk
    obtain ⟨q, hq, rfl⟩ := hk
    rw [add0]
    exact hB.cell (h k q j v hq hj)⟩

set_option maxHeartbeats 4000000 in
set_option maxRecDepth 100000 in
theorem InsertOpen_walk (p : Option Addr) (c : Nat) (B : List Int) (n wd k a0 a1 : Int) (w : World) (hA : DrA w p B n wd) (ha0 : 0 ≤ a0 ∧ a0 < 256) (ha1 : 0 ≤ a1 ∧ a1 < 256) :
    Calls Try.prog 6 #[.agg (drC p c B n wd k), .agg #[.int .u8 a0, .int .u8 a1]] w fun e w' => e = .returned (.bool true) ∧ Below w.heap.size w w' := by
  have hpc := Lib.hid (fun wx (h : DrA wx p B n wd) => dcase_calls p c B n wd k wx h)
  have hT6 : (dpT B n wd).length ≤ 6 := by rw [dpT_len]; exact dpN_le n
  obtain ⟨hNR, hL12, hLn⟩ := near_dcL B n wd
  have hnq := near_dpT B n wd
  obtain ⟨hvp, hvs⟩ := near_dpV B n
  have hwk := Lib.hid works_calls
  unfold DcPost at hpc
  generalize dcL B n wd = L at *
  generalize dpT B n wd = T at *
  generalize dpV B n = V' at *
  have hlaw := Lib.hid (fun (req : Int) (hr : 0 ≤ req ∧ req < (T.length : Int)) (hn : ∀ s ∈ L, s.1 ≠ req) (i j : Nat) (hij : i ≤ j) (hj : j ≤ L.length) => open_law hvp hvs hnq hNR hL12 hr hn hij hj)
  replace hLn := Lib.hid hLn
  replace hnq := Lib.hid hnq
  clear hNR hvp hvs
  obtain ⟨C, hC⟩ : ∃ C, drC p c B n wd k = C := ⟨_, rfl⟩
  have hCs : C.size = 4 := by rw [← hC]; rfl
  rw [hC] at hpc ⊢
  obtain ⟨V, hV⟩ : ∃ V, (veR V').toArray = V := ⟨_, rfl⟩
  have hVs : V.size = 5 := by rw [← hV]; rfl
  have hV1 : ∀ v ∈ V.toList, v.oneCell' = true := by rw [← hV]; simp [veR, Value.oneCell']
  obtain ⟨Y, hY⟩ : ∃ Y, (V.setIfInBounds 2 (.int .i64 1000)).setIfInBounds 4 (.int .i64 8000) = Y := ⟨_, rfl⟩
  have hYs : Y.size = 5 := by rw [← hY]; simpa using hVs
  have hV2 : V[2]? = some (.int .i64 (V' 2)) := by rw [← hV]; rfl
  have hV4 : V[4]? = some (.int .i64 (V' 4)) := by rw [← hV]; rfl
  have hY5 : Y = #[.int .i64 (V' 0), .int .i64 (V' 1), .int .i64 1000, .int .i64 (V' 3), .int .i64 8000] := by rw [← hY, ← hV]; rfl
  rw [hV] at hpc
  replace hY := Lib.hid hY
  replace hY5 := Lib.hid hY5
  clear hV
  have hB0 := (Blk.new w C 24).alloc (.cells #[.int .u8 a0, .int .u8 a1] 43)
  have hB1 := Blk.new' w (.cells C 24) #[.int .u8 a0, .int .u8 a1] 43
  have hb1 := (new_below w (.cells C 24)).alloc (by simp) (.cells #[.int .u8 a0, .int .u8 a1] 43)
  have hA1 := hA.below hb1
  replace hB0 := Lib.hid hB0
  replace hB1 := Lib.hid hB1
  replace hb1 := Lib.hid hb1
  replace hA1 := Lib.hid hA1
  clear hA hC
  go_enter Try.func6, Try.ntmps6
  go_upto_region 1 with fail
  refine wp_world' (fun wx => Blk wx w.heap.size C 24 ∧ Blk wx (w.heap.size + 1) #[.int .u8 a0, .int .u8 a1] 43 ∧ DrA wx p B n wd ∧ Below w.heap.size w wx) ⟨hB0.out, hB1.out, hA1.out, hb1.out⟩ ?_
  clear hB0 hB1 hA1 hb1
  rintro w0 ⟨hD, hAt, hA, hb⟩
  go_wp2_with fail
  refine (hwk.out _).mono ?_
  rintro e w1 ⟨rfl, hb1⟩
  have m1 := (Mod.refl (fun _ => False) w0).after hb1
  replace hD := hD.mod m1 (fun h => h)
  replace hAt := Lib.hid (hAt.mod m1 (fun h => h))
  replace hA := hA.below hb1
  replace hb := hb.trans (hb1.mono hb.size)
  clear hb1 hwk m1
  have hld := Lib.hid (run_load_row' (P := Try.prog) w1 _ 24 C 24 _ hD Try.underlying24 rfl (by rw [hCs]; kernel_rfl))
  replace hb := Lib.hid hb
  clear hD
  go_wp2_with (refine wpList_load_v rfl 24 _ rfl ⟨w.heap.size, 0, none⟩ rfl _ hld.out ?_)
  refine (hpc.out _ hA).mono ?_
  rintro e w2 ⟨⟨qL, dL, qT, dT, rfl, hdL, hdT, hEL, hET⟩, hb2⟩
  have hAt2 := hAt.out.mod ((Mod.refl (fun _ => False) _).after hb2) (fun h => h)
  replace hb2 := hb.out.trans (hb2.mono hb.out.size)
  clear hpc hA hb hld hAt
  have mA := (Mod.refl (fun _ => False) w2).alloc (.cells V 28)
  have P3 := Lib.hid (show Blk (w2.alloc (.cells V 28)) w2.heap.size V 28 ∧ Blk (w2.alloc (.cells V 28)) (w.heap.size + 1) #[.int .u8 a0, .int .u8 a1] 43 ∧ Below w2.heap.size w2 (w2.alloc (.cells V 28)) ∧ Below w.heap.size w (w2.alloc (.cells V 28)) from
    ⟨Blk.new _ _ _, hAt2.mod mA (fun h => h), new_below _ _, hb2.alloc hb2.size _⟩)
  have hgA := hAt2.lt
  have hzw := hb2.size
  clear mA hb2 hAt2
  go_upto_region 4 with (refine wpList_store_new rfl 28 _ _ rfl rfl rfl _ V _ rfl (by rw [hVs]; rfl) hV1 (by rw [hVs]; kernel_rfl) ?_)
  refine wp_world' (fun wx => Blk wx w2.heap.size V 28 ∧ Blk wx (w.heap.size + 1) #[.int .u8 a0, .int .u8 a1] 43 ∧ Below w2.heap.size w2 wx ∧ Below w.heap.size w wx) P3.out ?_
  clear P3
  rintro w3 ⟨hV3, hAt3, hl3, hb3⟩
  by_cases hneg : (T.length : Int) - 1 < 0
  · clear hlaw
    go_wp2_with fail
    go_ret
    exact ⟨rfl, hb3⟩
  have hT0 : 0 < T.length := by omega
  obtain ⟨rq, hrq⟩ : ∃ m : Nat, m + 1 = T.length := ⟨T.length - 1, by omega⟩
  have hrqI : (T.length : Int) - 1 = (rq : Int) := by omega
  have hrl : rq < T.length := by omega
  replace hrq := Lib.hid hrq
  go_upto_region 6 with fail
  rw [hrqI]
  rw [hrqI] at hLn
  clear hrqI hneg
  have ho1 := Lib.hid (World.ownsRow_made (base := w3.heap.size) (e := 47) (size := 10) w3 #[] 0 (Nat.le_refl _) (by unfold maxLen; omega) rfl)
  have hlow1 := Lib.hid (new_below w3 (.cells #[] 47))
  have hEA := Lib.hid (hET.below (hl3.trans (hlow1.out.mono hl3.size)))
  have hz1 := Lib.hid hlow1.out.size
  have hTl : T.length = (T.map rqV).length := by rw [List.length_map]
  replace hTl := Lib.hid hTl
  have hall := Lib.hid (show ∀ z ∈ T.map rqV, ∀ u ∈ z, u.oneCell' = true from rq_all T)
  replace hV3 := Lib.hid hV3
  replace hAt3 := Lib.hid hAt3
  replace hEL := Lib.hid hEL
  replace hET := Lib.hid hET
  replace hb3 := Lib.hid hb3
  have hg5 := Lib.hid hV3.out.lt
  replace hl3 := Lib.hid hl3
  go_upto_region 7 with (first | (refine wpList_bs0 rfl 30 0 rfl _ _ (rsl_rqZ _) ?_) |
    (refine wpList_appE rq_el rfl _ _ rfl w3.heap.size hz1.out _ 0 [] rfl ho1.out (by omega) qT T.length dT _ rfl hEA.out hTl.out (by omega) hall.out ?_; intro v6 w6 hO6 hg6))
  have hlow6 := grown_low hlow1.out (Nat.le_refl _) (Nat.le_refl _) ho1.out hg6
  rw [Nat.zero_add, List.nil_append] at hO6
  obtain ⟨qO, nO, dO, rfl⟩ := own_isS hO6
  obtain ⟨_, hnO, hdO, _⟩ := own_els (R := T.map rqV) (rqV_len _) (by rw [List.length_map]; exact hO6) (by rw [List.length_map]; omega)
  rw [List.length_map] at hnO
  subst hnO
  obtain ⟨gO, CO, rfl, hBO, hgO, hCO⟩ := own_blk hO6 hT0
  have hR0 := rqIn_of hCO
  clear ho1 hlow1 hEA hz1 hg6 hO6 hCO hall hTl
  rw [← opK_zero T] at hR0
  go_wp2_with fail
  go_loopw [10] (fun s10 wx => ∃ (i : Nat) (D : Array Value), i ≤ T.length ∧ s10 = .int .i64 i ∧ RqIn D (opK T i) ∧ Blk wx gO D 47 ∧ Below w3.heap.size w3 wx) (fun s10 _ => T.length - (intOf s10).toNat)
  case atStart => exact ⟨0, CO, Nat.zero_le _, rfl, hR0, hBO, hlow6⟩
  case round =>
    clear hR0 hBO hlow6
    obtain ⟨i, D, hi, rfl, hR, hB, hlow⟩ := hrel
    by_cases hlt : i < T.length
    · have hltI : (i : Int) < (T.length : Int) := by omega
      have s1 : IntKind.i64.wrap ((i : Int) + 1) = (i : Int) + 1 := IntWalk.i64_in _ (by omega)
      have hs := Lib.hid (rqIn_step hR hlt)
      obtain ⟨u4, h4⟩ : ∃ u, D[i * 10 + 4]? = some u := ⟨_, hR i T[i] 4 _ (by rw [opK_at, if_neg (by omega), List.getElem?_eq_getElem hlt]) rfl⟩
      obtain ⟨u5, h5⟩ : ∃ u, D[i * 10 + 4 + 1]? = some u := ⟨_, hR i T[i] 5 _ (by rw [opK_at, if_neg (by omega), List.getElem?_eq_getElem hlt]) rfl⟩
      have k4 := hB.cell h4
      have k5 := hB.cell h5
      have f4 := hB.froz (i * 10 + 4)
      have f5 := hB.froz (i * 10 + 4 + 1)
      have hBA := Lib.hid (((hB.set (i * 10 + 4) (.int .i64 0)).set (i * 10 + 4 + 1) (.int .i64 4000)))
      replace hR := Lib.hid hR
      replace hB := Lib.hid hB
      replace hlow := Lib.hid hlow
      have hlA := Lib.hid (show Below w3.heap.size w3 ((wr.setCell ⟨gO, i * 10 + 4, none⟩ (.int .i64 0)).setCell ⟨gO, i * 10 + 4 + 1, none⟩ (.int .i64 4000)) from (hlow.out.setCell (by exact hgO) _).setCell (by exact hgO) _)
      go_upto_region 11 with fail
      refine wp_world' (fun wx => Blk wx gO ((D.setIfInBounds (i * 10 + 4) (.int .i64 0)).setIfInBounds (i * 10 + 4 + 1) (.int .i64 4000)) 47 ∧ Below w3.heap.size w3 wx) ⟨hBA.out, hlA.out⟩ ?_
      have hs6 : ∃ u, ((D.setIfInBounds (i * 10 + 4) (.int .i64 0)).setIfInBounds (i * 10 + 4 + 1) (.int .i64 4000))[i * 10 + 6]? = some u := by
        rw [Array.getElem?_setIfInBounds, if_neg (by omega), Array.getElem?_setIfInBounds, if_neg (by omega)]
        exact ⟨_, hR.out i T[i] 6 _ (by rw [opK_at, if_neg (by omega), List.getElem?_eq_getElem hlt]) rfl⟩
      have hs7 : ∃ u, ((D.setIfInBounds (i * 10 + 4) (.int .i64 0)).setIfInBounds (i * 10 + 4 + 1) (.int .i64 4000))[i * 10 + 6 + 1]? = some u := by
        rw [Array.getElem?_setIfInBounds, if_neg (by omega), Array.getElem?_setIfInBounds, if_neg (by omega)]
        exact ⟨_, hR.out i T[i] 7 _ (by rw [opK_at, if_neg (by omega), List.getElem?_eq_getElem hlt]) rfl⟩
      clear hBA hlA k4 k5 f4 f5 hB hlow h4 h5 hR
      generalize (D.setIfInBounds (i * 10 + 4) (.int .i64 0)).setIfInBounds (i * 10 + 4 + 1) (.int .i64 4000) = D2 at *
      obtain ⟨u6, h6⟩ := hs6
      obtain ⟨u7, h7⟩ := hs7
      rintro w8 ⟨hB, hlow⟩
      have k6 := hB.cell h6
      have k7 := hB.cell h7
      have f6 := hB.froz (i * 10 + 6)
      have f7 := hB.froz (i * 10 + 6 + 1)
      have hBA := Lib.hid (((hB.set (i * 10 + 6) (.int .i64 0)).set (i * 10 + 6 + 1) (.int .i64 4000)))
      have hlA := Lib.hid (show Below w3.heap.size w3 ((w8.setCell ⟨gO, i * 10 + 6, none⟩ (.int .i64 0)).setCell ⟨gO, i * 10 + 6 + 1, none⟩ (.int .i64 4000)) from (hlow.setCell (by exact hgO) _).setCell (by exact hgO) _)
      clear hB hlow
      go_wp2_with fail
      go_roundw
      case rel => exact ⟨i + 1, _, by omega, by simp, hs.out, hBA.out, hlA.out⟩
      case measure => simp [intOf]; omega
    · obtain rfl : i = T.length := by omega
      rw [opK_all] at hR
      have hEO := Lib.hid (rqIn_els hR hB (by rw [List.length_map]; omega))
      have hVr := hV3.out.mod ((Mod.refl (fun _ => False) _).after hlow) (fun h => h)
      have hAr := hAt3.out.mod ((Mod.refl (fun _ => False) _).after hlow) (fun h => h)
      have hgne : w2.heap.size ≠ gO := by have := hg5.out; omega
      have k2 := hVr.cell hV2
      have f2 := hVr.froz 2
      have k4 := hVr.cell hV4
      have f4 := hVr.froz 4
      have hl4 := hl3.out.trans (hlow.mono hl3.out.size)
      have hb4 := hb3.out.trans (hlow.mono hb3.out.size)
      have hM : Mod (fun k => k = w2.heap.size) wr ((wr.setCell ⟨w2.heap.size, 2, none⟩ (.int .i64 1000)).setCell ⟨w2.heap.size, 4, none⟩ (.int .i64 8000)) := ((Mod.refl (fun k => k = w2.heap.size) wr).setCell (p := ⟨w2.heap.size, 2, none⟩) (fun _ => rfl) (.int .i64 1000)).setCell (p := ⟨w2.heap.size, 4, none⟩) (fun _ => rfl) (.int .i64 8000)
      have P5 := Lib.hid (show Blk ((wr.setCell ⟨w2.heap.size, 2, none⟩ (.int .i64 1000)).setCell ⟨w2.heap.size, 4, none⟩ (.int .i64 8000)) w2.heap.size Y 28 ∧ Blk ((wr.setCell ⟨w2.heap.size, 2, none⟩ (.int .i64 1000)).setCell ⟨w2.heap.size, 4, none⟩ (.int .i64 8000)) (w.heap.size + 1) #[.int .u8 a0, .int .u8 a1] 43 ∧
          Els ((wr.setCell ⟨w2.heap.size, 2, none⟩ (.int .i64 1000)).setCell ⟨w2.heap.size, 4, none⟩ (.int .i64 8000)) qL 2 (L.map stV) ∧ Els ((wr.setCell ⟨w2.heap.size, 2, none⟩ (.int .i64 1000)).setCell ⟨w2.heap.size, 4, none⟩ (.int .i64 8000)) qT 10 (T.map rqV) ∧
          Els ((wr.setCell ⟨w2.heap.size, 2, none⟩ (.int .i64 1000)).setCell ⟨w2.heap.size, 4, none⟩ (.int .i64 8000)) (some ⟨gO, 0, none⟩) 10 ((T.map opR).map rqV) ∧ Below w.heap.size w ((wr.setCell ⟨w2.heap.size, 2, none⟩ (.int .i64 1000)).setCell ⟨w2.heap.size, 4, none⟩ (.int .i64 8000)) from
        ⟨by rw [← hY.out]; exact (hVr.set 2 _).set 4 _, hAr.mod hM (by omega),
          hEL.out.below (hl4.trans (hM.below hl4.size (fun k h => by have : k = w2.heap.size := h; omega))), hET.out.below (hl4.trans (hM.below hl4.size (fun k h => by have : k = w2.heap.size := h; omega))),
          hEO.out.modb hM (fun a ha h => by cases ha; exact hgne h.symm), hb4.trans (hM.below hb4.size (fun k h => by have : k = w2.heap.size := h; omega))⟩)
      clear hR hlt hlow hVr hAr hB hl4 hb4 hM hEO hET hEL hl3 hb3 hV3 hAt3
      go_upto_region 13 with fail
      refine wp_world' (fun wx => Blk wx w2.heap.size Y 28 ∧ Blk wx (w.heap.size + 1) #[.int .u8 a0, .int .u8 a1] 43 ∧ Els wx qL 2 (L.map stV) ∧ Els wx qT 10 (T.map rqV) ∧ Els wx (some ⟨gO, 0, none⟩) 10 ((T.map opR).map rqV) ∧ Below w.heap.size w wx) P5.out ?_
      clear P5 k2 f2 k4 f4 hgne
      rintro w9 ⟨hY9, hAt9, hEL, hET, hEO, hb9⟩
      have kA0 := hAt9.cell (i := 0) rfl
      have kA1 := hAt9.cell (i := 1) rfl
      have hlY := Lib.hid (fun (wx : World) (h : Below w9.heap.size w9 wx) => run_load_row' (P := Try.prog) wx w2.heap.size 28 Y 28 _ (hY9.mod ((Mod.refl (fun _ => False) _).after h) (fun h => h)) Try.underlying28 rfl (by rw [hYs]; kernel_rfl))
      obtain ⟨ni, hni⟩ : ∃ m : Nat, (m : Int) = a0 % ((L.length : Int) + 1) := ⟨(a0 % ((L.length : Int) + 1)).toNat, Int.toNat_of_nonneg (Int.emod_nonneg _ (by omega))⟩
      have hnil : ni ≤ L.length := by have := Int.emod_lt_of_pos a0 (show (0 : Int) < (L.length : Int) + 1 by omega); omega
      obtain ⟨nk, hnk⟩ : ∃ m : Nat, (m : Int) = a1 % ((L.length : Int) + 1 - (ni : Int)) := ⟨(a1 % ((L.length : Int) + 1 - (ni : Int))).toNat, Int.toNat_of_nonneg (Int.emod_nonneg _ (by omega))⟩
      have hnkl : ni + nk ≤ L.length := by have := Int.emod_lt_of_pos a1 (show (0 : Int) < (L.length : Int) + 1 - (ni : Int) by omega); omega
      have s1 : IntKind.i64.wrap a0 = a0 := IntWalk.i64_in _ (by omega)
      have s2 : IntKind.i64.wrap a1 = a1 := IntWalk.i64_in _ (by omega)
      replace hni := Lib.hid hni
      replace hnk := Lib.hid hnk
      replace hY9 := Lib.hid hY9
      replace hEL := Lib.hid hEL
      replace hET := Lib.hid hET
      replace hEO := Lib.hid hEO
      replace hb9 := Lib.hid hb9
      clear hAt9
      go_upto_region 14 with (first | (refine wpList_v rfl (.int .i64 ni) (run_rem64 rfl rfl rfl (by omega) (by omega) hni.out (by omega)) ?_))
      go_upto_region 15 with (first | (refine wpList_v rfl (.int .i64 nk) (run_rem64 rfl rfl rfl (by omega) (by omega) hnk.out (by omega)) ?_))
      obtain ⟨nj, hnj⟩ : ∃ m, ni + nk = m := ⟨_, rfl⟩
      rw [show (ni : Int) + (nk : Int) = (nj : Int) by omega]
      obtain ⟨D, hD, hlr, hld⟩ := hlaw.out (rq : Int) ⟨by omega, by omega⟩ hLn.out ni nj (by omega) (by omega)
      rw [Int.toNat_natCast] at hlr
      have hsv0 := hnq.out T[rq] (List.getElem_mem hrl)
      have hgd : T.getD rq rqZ0 = T[rq] := getD_at T hrl
      rw [hgd] at hlr
      have hsv := hsv0.2.2.2.2.2
      have hTm : T[rq]? = some T[rq] := List.getElem?_eq_getElem hrl
      have hri := Lib.hid (fun (wx : World) (h : Below w9.heap.size w9 wx) => (by
        have := rise_calls (V' 0) (V' 1) 1000 (V' 3) 8000 (rq : Int) ni nj qL (some ⟨gO, 0, none⟩) dL dO L (T.map opR) wx (hEL.out.below h) hdL.1 (hEO.out.below h)
        rw [← hY5.out, List.length_map, hlr] at this
        exact this : Calls Try.prog 15 #[.agg Y, .slice qL L.length dL, .slice (some ⟨gO, 0, none⟩) T.length dO, .int .i64 (rq : Int), .int .i64 (ni : Int), .int .i64 (nj : Int)] wx fun e w' => e = .returned (.tuple #[.int .i64 (D + 2 * T[rq] 9), .int .i64 0]) ∧ Below wx.heap.size wx w'))
      have hdi := Lib.hid (fun (wx : World) (h : Below w9.heap.size w9 wx) => (by
        have := detour_calls (V' 0) (V' 1) 1000 (V' 3) 8000 (rq : Int) ni nj qL (some ⟨gO, 0, none⟩) dL dO L (T.map opR) wx (hEL.out.below h) hdL.1 (hEO.out.below h)
        rw [← hY5.out, List.length_map, hld] at this
        exact this : Calls Try.prog 16 #[.agg Y, .slice qL L.length dL, .slice (some ⟨gO, 0, none⟩) T.length dO, .int .i64 (rq : Int), .int .i64 (ni : Int), .int .i64 (nj : Int)] wx fun e w' => e = .returned (.tuple #[.int .i64 D, .int .i64 0]) ∧ Below wx.heap.size wx w'))
      obtain ⟨a, rfl⟩ := hET.out.some_of (k := rq) (by simpa using hrl)
      have hl9 := Lib.hid (fun (wx : World) (h : Below w9.heap.size w9 wx) => (by
        have := (hET.out.below h).cells a rfl rq (rqV T[rq]) 9 (.int .i64 (T[rq] 9)) (by rw [List.getElem?_map, hTm]; rfl) rfl
        rw [← addr_add_add] at this
        exact run_i64 this : (loadVar 3 ((a.add (rq * 10)).add 9)).run Try.prog wx = .ok (.int .i64 (T[rq] 9)) wx))
      generalize T[rq] 9 = sv at *
      have hl1 := Lib.hid (hlY.out w9 (Below.refl _ _))
      have s3 : IntKind.i64.wrap (2 * sv) = 2 * sv := IntWalk.i64_in _ (by omega)
      have s4 : IntKind.i64.wrap (D + 2 * sv) = D + 2 * sv := IntWalk.i64_in _ (by omega)
      clear hsv0 hgd hTm hlr hld hlaw hLn hnq hET hEL hEO hnk hni kA0 kA1 hY9 s1 s2 hrq
      go_wp2_with (refine wpList_load_v rfl 28 _ rfl ⟨w2.heap.size, 0, none⟩ rfl _ hl1.out ?_)
      refine (hri.out _ (Below.refl _ _)).mono ?_
      rintro e w10 ⟨rfl, hb10⟩
      have hl2 := Lib.hid (hlY.out w10 hb10)
      have hdc := Lib.hid (hdi.out w10 hb10)
      clear hri hl1
      go_wp2_with (refine wpList_load_v rfl 28 _ rfl ⟨w2.heap.size, 0, none⟩ rfl _ hl2.out ?_)
      refine hdc.out.mono ?_
      rintro e w11 ⟨rfl, hb11⟩
      have hb12 := hb10.trans (hb11.mono hb10.size)
      have hl3 := Lib.hid (hl9.out w11 hb12)
      replace hb12 := Lib.hid (hb9.out.trans (hb12.mono hb9.out.size))
      clear hdi hdc hl2 hlY hl9 hb10 hb11 hb9
      go_wp2_with (refine wpList_load_v rfl 3 _ rfl ((a.add (rq * 10)).add 9) rfl _ hl3.out ?_)
      go_ret
      exact ⟨rfl, hb12.out⟩
end Go.Proofs.Ytcdpiemkbefcoaa
