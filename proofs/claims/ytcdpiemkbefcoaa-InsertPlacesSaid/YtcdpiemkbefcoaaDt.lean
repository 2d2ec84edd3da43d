/-
  Layer 11, the program's: places, way.
-/
import Derived.Test.YtcdpiemkbefcoaaPu
namespace Go.Proofs.Ytcdpiemkbefcoaa
open Go.RowKit

/-- a stop's place -/
def plP (s : Int × Int) (t : List Rq) : Int × Int := ((ptG s t).x, (ptG s t).y)
theorem pl_el : ElT Try.prog 80 26 2 16 := ⟨Try.underlying80, by kernel_rfl, by kernel_rfl, by kernel_rfl, by omega, by omega⟩
theorem rsl_pl (r k : Int) (w : World) : (Instr.buildSlice 80 1 #[(0, .agg #[.int .i64 r, .int .i64 k])]).run Try.prog w = .ok (.slice (some ⟨w.heap.size, 0, none⟩) 1 1) (w.alloc (.cells (stV (r, k)).toArray 26)) := by kernel_rfl

set_option maxHeartbeats 1000000 in
set_option maxRecDepth 100000 in
theorem splace_calls (p : Option Addr) (cap : Nat) (t : List Rq) (r k : Int) (w : World) (hE : Els w p 10 (t.map rqV)) :
    Calls Try.prog 63 #[.agg #[.int .i64 r, .int .i64 k], .slice p t.length cap] w fun e w' => e = .returned (.tuple #[.agg #[.int .i64 (plP (r, k) t).1, .int .i64 (plP (r, k) t).2], .bool (ptB (r, k) t)]) ∧ Below w.heap.size w w' := by
  have hX : plP (r, k) t = ((ptG (r, k) t).x, (ptG (r, k) t).y) := rfl
  have ho := Lib.hid (fun wx (h : Below w.heap.size w wx) => of_calls p cap t r k wx (hE.below h))
  generalize plP (r, k) t = X at hX ⊢
  generalize ptB (r, k) t = B at ho ⊢
  generalize ptG (r, k) t = G at hX ho
  subst hX
  go_enter Try.func63, Try.ntmps63
  go_upto_region 1 with fail
  refine wp_world' (fun wx => Blk wx w.heap.size #[.int .i64 r, .int .i64 k] 55 ∧ Blk wx (w.heap.size + 1) #[.int .i64 0, .int .i64 0] 26 ∧ Below w.heap.size w wx)
    ⟨(Blk.new _ _ _).alloc _, Blk.new' _ _ _ _, (new_below _ _).alloc (by simp) _⟩ ?_
  rintro w1 ⟨hS, hP, hb⟩
  have k0 := hS.cell (i := 0) rfl
  have k1 := hS.cell (i := 1) rfl
  have hls := Lib.hid (run_load_row' (P := Try.prog) w1 w.heap.size 55 #[.int .i64 r, .int .i64 k] 55 _ hS Try.underlying55 rfl (by kernel_rfl))
  replace hP := Lib.hid hP
  clear hS
  go_wp2_with (refine wpList_load_v rfl 55 _ rfl ⟨w.heap.size, 0, none⟩ rfl _ hls.out ?_)
  refine (ho.out _ hb).mono ?_
  rintro e w2 ⟨rfl, hb2⟩
  replace hP := hP.out.mod ((Mod.refl (fun _ => False) _).after hb2) (fun h => h)
  replace hb := hb.trans (hb2.mono hb.size)
  have hPl := hP.lt
  have hG := Lib.hid (load_part (P := Try.prog) _ w2.heap.size G.row 106 (Blk.new w2 G.row 106) 0 2 (by simp [Pt.row]) 26 _ Try.underlying26 rfl (by kernel_rfl))
  have hGe : G.row.extract 0 (0 + 2) = #[.int .i64 G.x, .int .i64 G.y] := rfl
  rw [hGe] at hG
  have hPA := Lib.hid (hP.alloc (.cells G.row 106))
  have hbA := Lib.hid (hb.alloc hb.size (.cells G.row 106))
  clear hb2 ho hls k0 k1 hP hb hGe
  go_wp2_with (first | (refine wpList_store_new rfl 106 _ _ rfl rfl rfl _ G.row _ rfl rfl (pt_one _) (pt_size _) ?_) | (refine wpList_load_v rfl 26 _ rfl ⟨w2.heap.size, 0, none⟩ rfl _ hG.out ?_) |
    (refine wpList_store_row2 rfl 26 _ _ rfl rfl (w.heap.size + 1) rfl #[.int .i64 0, .int .i64 0] #[.int .i64 G.x, .int .i64 G.y] 26 hPA.out rfl rfl (by simp [Value.oneCell']) (by kernel_rfl) ?_; intro wz hBz hmz))
  exact bodyPost_ret (results_cell_tmp rfl _ _ (w.heap.size + 1) _ _ _ _ rfl hBz Try.underlying26 rfl (by kernel_rfl)) rfl ⟨rfl, hbA.out.trans (hmz.below hbA.out.size (fun x hx => by omega))⟩

/-- the places of stops, and home -/
def plcL (x y : Int) (l : List (Int × Int)) (t : List Rq) : List (Int × Int) := (x, y) :: l.map fun s => plP s t
theorem own_one (w : World) (base : Nat) (h : base ≤ w.heap.size) (s : Int × Int) : (w.alloc (.cells (stV s).toArray 26)).ownsRow base 26 2 (.slice (some ⟨w.heap.size, 0, none⟩) 1 1) 1 (stV s) :=
  ⟨rfl, .inr ⟨w.heap.size, 1, (stV s).toArray, rfl, h, World.alloc_heap_new w _, Nat.le_refl _, by unfold maxLen; omega, rfl, rfl⟩⟩

set_option maxHeartbeats 2000000 in
set_option maxRecDepth 100000 in
theorem places_calls (x y cp st en : Int) (p p' : Option Addr) (c c' : Nat) (l : List (Int × Int)) (t : List Rq) (w : World) (hL : Els w p 2 (l.map stV)) (hl : l.length ≤ 1000) (hT : Els w p' 10 (t.map rqV)) :
    Calls Try.prog 34 #[.agg #[.int .i64 x, .int .i64 y, .int .i64 cp, .int .i64 st, .int .i64 en], .slice p l.length c, .slice p' t.length c'] w fun e w' =>
      (∃ q d, e = .returned (.slice q (plcL x y l t).length d) ∧ Els w' q 2 ((plcL x y l t).map stV)) ∧ Below w.heap.size w w' := by
  have ho := Lib.hid (fun r k wx (h : Below w.heap.size w wx) => splace_calls p' c' t r k wx (hT.below h))
  replace hL := Lib.hid hL
  have hv1 := (Blk.new w #[.int .i64 x, .int .i64 y, .int .i64 cp, .int .i64 st, .int .i64 en] 28)
  have hlv := Lib.hid (load_part (P := Try.prog) _ w.heap.size _ 28 hv1 0 2 (by simp) 26 _ Try.underlying26 rfl (by kernel_rfl))
  have he : (#[.int .i64 x, .int .i64 y, .int .i64 cp, .int .i64 st, .int .i64 en] : Array Value).extract 0 (0 + 2) = #[.int .i64 x, .int .i64 y] := rfl
  rw [he] at hlv
  have hb0 := new_below w (.cells #[.int .i64 x, .int .i64 y, .int .i64 cp, .int .i64 st, .int .i64 en] 28)
  generalize hV : (#[.int .i64 x, .int .i64 y, .int .i64 cp, .int .i64 st, .int .i64 en] : Array Value) = V at *
  have hbA := Lib.hid (hb0.alloc (by simp) (.cells (stV (x, y)).toArray 26))
  have hOA := Lib.hid (own_one (w.alloc (.cells V 28)) (w.heap.size + 1) (by simp) (x, y))
  clear hv1 he hb0 hT hV
  go_enter Try.func34, Try.ntmps34
  go_upto_region 2 with (first | (refine wpList_load_v rfl 26 _ rfl ⟨w.heap.size, 0, none⟩ rfl _ hlv.out ?_) | (refine wpList_bs1 rfl 80 1 0 _ rfl (.agg #[.int .i64 x, .int .i64 y]) rfl _ _ (rsl_pl x y _) ?_))
  refine wp_world' (fun wx => wx.ownsRow (w.heap.size + 1) 26 2 (.slice (some ⟨w.heap.size + 1, 0, none⟩) 1 1) 1 (stV (x, y)) ∧ Below w.heap.size w wx) ⟨by have := hOA.out; simpa using this, hbA.out⟩ ?_
  rintro w1 ⟨hO, hb⟩
  clear hOA hbA hlv
  go_wp2_with fail
  go_loopw [7, 17] (fun o i wr => ∃ k : Nat, k ≤ l.length ∧ i = .int .i64 k ∧ wr.ownsRow (w.heap.size + 1) 26 2 o (k + 1) ((plcL x y (l.take k) t).map stV).flatten ∧ Below w.heap.size w wr) (fun _ i _ => l.length - (intOf i).toNat)
  case atStart => exact ⟨0, Nat.zero_le _, rfl, by simpa [plcL] using hO, hb⟩
  case round =>
    obtain ⟨k, hk, rfl, hown, hbr⟩ := hrel
    by_cases hlt : k < l.length
    · have hltI : (k : Int) < (l.length : Int) := by omega
      have s1 : IntKind.i64.wrap ((k : Int) + 1) = (k : Int) + 1 := IntWalk.i64_in _ (by omega)
      obtain ⟨a, rfl⟩ := (hL.out.below hbr).some_of (k := k) (by simpa using hlt)
      have hla := (hL.out.below hbr).load (P := Try.prog) (a := a) rfl (k := k) (by simpa using hlt) (ty := 55) Try.underlying55 rfl (by kernel_rfl)
      rw [List.getElem_map] at hla
      have hps : plcL x y (l.take (k + 1)) t = plcL x y (l.take k) t ++ [plP l[k] t] := by
        unfold plcL
        rw [List.take_succ_eq_append_getElem hlt, List.map_append]
        simp
      obtain ⟨r, q, hs⟩ : ∃ r q, l[k] = (r, q) := ⟨_, _, rfl⟩
      rw [hs] at hla hps
      replace hla : Hid ((loadVar 55 (a.add (k * 2))).run Try.prog wr = .ok (.agg #[.int .i64 r, .int .i64 q]) wr) := Lib.hid hla
      have hown1 := own_mod hown ((Mod.refl (fun _ => False) wr).alloc (.cells #[.int .i64 r, .int .i64 q] 55)) (fun _ _ h => h)
      have hb1 := hbr.alloc hbr.size (.cells #[.int .i64 r, .int .i64 q] 55)
      have hoc := Lib.hid (ho.out r q _ hb1)
      generalize plP (r, q) t = X at hps hoc
      generalize ptB (r, q) t = B at hoc
      replace hps := Lib.hid hps
      replace hown1 := Lib.hid hown1
      replace hb1 := Lib.hid hb1
      clear hs hown hbr hO
      go_upto_region 5 with (first | (refine wpList_load_v rfl 55 _ rfl (a.add (k * 2)) rfl _ hla.out ?_))
      go_wp2_with fail
      refine hoc.out.mono ?_
      rintro e w2 ⟨rfl, hb2⟩
      have hown2 := own_mod hown1.out ((Mod.refl (fun _ => False) _).after hb2) (fun _ _ h => h)
      replace hb2 := hb1.out.trans (hb2.mono hb1.out.size)
      have hown3 := own_mod hown2 ((Mod.refl (fun _ => False) w2).alloc (.cells #[.int .i64 X.1, .int .i64 X.2] 26)) (fun _ _ h => h)
      have hb3 := hb2.alloc hb2.size (.cells #[.int .i64 X.1, .int .i64 X.2] 26)
      have hownA := Lib.hid (own_mod hown3 ((Mod.refl (fun _ => False) _).alloc (.cells (stV X).toArray 26)) (fun _ _ h => h))
      have hbA := Lib.hid (hb3.alloc hb3.size (.cells (stV X).toArray 26))
      have hls := hb2.size
      have hsA := Lib.hid (show w.heap.size + 1 ≤ ((w2.alloc (.cells #[.int .i64 X.1, .int .i64 X.2] 26)).alloc (.cells (stV X).toArray 26)).heap.size by simp; omega)
      clear hown3 hown2 hown1 hb1 hb2 hb3 hla hoc
      go_upto_region 7 with (first | (refine wpList_bs1 rfl 80 1 0 _ rfl (.agg #[.int .i64 X.1, .int .i64 X.2]) rfl _ _ (rsl_pl X.1 X.2 _) ?_) |
            (refine wpList_appG pl_el rfl _ _ rfl (w.heap.size + 1) hsA.out _ _ _ rfl hownA.out (by omega) _ 1 1 (stV X) rfl rfl (by omega) (row_cells (Blk.new _ _ _)) (st_one _) ?_; intro v' w13 hown' hg'))
      have HO := Lib.hid hown'
      have HB := Lib.hid (grown_low hbA.out (Nat.le_succ _) (Nat.le_refl _) hownA.out hg')
      clear hown' hg' hownA hsA hbA hls
      go_wp2_with fail
      go_roundw
      case rel =>
        refine ⟨k + 1, by omega, by simp, ?_, HB.out⟩
        rw [hps.out, List.map_append, List.flatten_append]
        simpa using HO.out
      case measure => simp [intOf]; omega
    · obtain rfl : k = l.length := by omega
      rw [List.take_length] at hown
      obtain ⟨q, m, d, rfl⟩ := own_isS hown
      have hpl : (plcL x y l t).length = l.length + 1 := by simp [plcL]
      have hEl := own_els (stV_len (plcL x y l t)) (by rw [List.length_map, hpl]; exact hown) (by simp [hpl]; omega)
      simp only [List.length_map] at hEl
      obtain ⟨h1, rfl, h3, h4⟩ := hEl
      replace h1 := Lib.hid h1
      replace hbr := Lib.hid hbr
      clear hown h4 hO
      go_wp2
      go_ret
      exact ⟨⟨q, d, rfl, h1.out⟩, hbr.out⟩
end Go.Proofs.Ytcdpiemkbefcoaa
