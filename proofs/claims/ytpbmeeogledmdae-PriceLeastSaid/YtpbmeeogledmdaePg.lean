/-
  Layer 13, the program's: Routes.
-/
import Derived.Test.YtpbmeeogledmdaePc
namespace Go.Proofs.Ytpbmeeogledmdae
open Go.RowKit

/-- a route as a row of its own -/
def RowI (w : World) (base : Nat) (q : Option Addr × Nat) (l : Rou2) : Prop :=
  Els w q.1 2 (l.map stV) ∧ (l.length ≤ q.2 ∧ q.2 ≤ 9223372036854775807) ∧ (l ≠ [] → ∃ g C, q.1 = some ⟨g, 0, none⟩ ∧ base ≤ g ∧ Blk w g C 81)
theorem RowI.mod {w w' : World} {base : Nat} {q : Option Addr × Nat} {l : Rou2} (h : RowI w base q l) {S : Nat → Prop} (hm : Mod S w w') (hs : ∀ g C, base ≤ g → Blk w g C 81 → ¬ S g) : RowI w' base q l := by
  obtain ⟨h1, h2, h3⟩ := h
  refine ⟨els_modP h1 hm (fun a ha hR => ?_), h2, fun h0 => ?_⟩
  · obtain ⟨g, C, e, hg, hB⟩ := h3 (fun e => hR (by rw [e]; rfl))
    rw [e] at ha
    cases ha
    exact hs g C hg hB
  · obtain ⟨g, C, e, hg, hB⟩ := h3 h0
    exact ⟨g, C, e, hg, hB.mod hm (hs g C hg hB)⟩
def rsV (rows : List Rou2) (qs : List (Option Addr × Nat)) (k : Nat) : List (List Value) := (List.range k).map fun i => [.slice (qs.getD i (none, 0)).1 (rows.getD i []).length (qs.getD i (none, 0)).2]
theorem rsV_len (rows : List Rou2) (qs : List (Option Addr × Nat)) (k : Nat) : ∀ x ∈ rsV rows qs k, x.length = 1 := by
  intro x hx
  obtain ⟨i, _, rfl⟩ := List.mem_map.1 hx
  rfl
theorem rsV_size (rows : List Rou2) (qs : List (Option Addr × Nat)) (k : Nat) : (rsV rows qs k).length = k := by simp [rsV]
theorem rsV_succ (rows : List Rou2) (qs : List (Option Addr × Nat)) {k : Nat} (hk : qs.length = k) (q : Option Addr) (d : Nat) : rsV rows (qs ++ [(q, d)]) (k + 1) = rsV rows qs k ++ [[.slice q (rows.getD k []).length d]] := by
  unfold rsV
  rw [List.range_succ, List.map_append]
  congr 1
  · apply List.map_congr_left
    intro i hi
    have hi' := List.mem_range.1 hi
    have e : (qs ++ [(q, d)]).getD i (none, 0) = qs.getD i (none, 0) := by
      rw [List.getD_eq_getElem?_getD, List.getD_eq_getElem?_getD, List.getElem?_append_left (by omega)]
    rw [e]
  · have e : (qs ++ [(q, d)]).getD k (none, 0) = (q, d) := by
      rw [List.getD_eq_getElem?_getD, List.getElem?_append_right (by omega), hk, Nat.sub_self]
      rfl
    simp only [List.map_cons, List.map_nil, e]
def RsPost (w : World) (rows : List Rou2) (e : Ending) (w' : World) : Prop :=
  Below w.heap.size w w' ∧ ∃ q d qs, e = .returned (.slice q rows.length d) ∧ rows.length ≤ d ∧ qs.length = rows.length ∧ Els w' q 1 (rsV rows qs rows.length) ∧ (∀ a, q = some a → w.heap.size ≤ a.block) ∧ (∀ i, i < rows.length → RowI w' w.heap.size (qs.getD i (none, 0)) (rows.getD i [])) ∧ (0 < rows.length → ∃ g C, q = some ⟨g, 0, none⟩ ∧ Blk w' g C 48)
theorem rs_el : ElT Try.prog 29 48 1 24 := ⟨Try.underlying29, by kernel_rfl, by kernel_rfl, by kernel_rfl, by omega, by omega⟩
theorem rsl_rs (q : Option Addr) (n d : Nat) (w : World) : (Instr.buildSlice 29 1 #[(0, .slice q n d)]).run Try.prog w = .ok (.slice (some ⟨w.heap.size, 0, none⟩) 1 1) (w.alloc (.cells #[.slice q n d] 48)) := by kernel_rfl
/-- blocks of other types are other blocks -/
theorem own_ne {w : World} {base n k : Nat} {E T : TypeId} {v : Value} {xs : List Value} (h : w.ownsRow base E n v k xs) {g g' : Nat} {C : Array Value} (hg : v.ownBlock = some g') (hB : Blk w g C T) (hT : T ≠ E) : g ≠ g' := by
  intro e
  rw [e] at hB
  rcases h.2 with ⟨hv, _⟩ | ⟨g2, cap', cur, hv, _, hh, _⟩
  · rw [hv] at hg; cases hg
  · rw [hv] at hg
    have e2 : g2 = g' := Option.some.inj hg
    rw [e2] at hh
    have hB' : w.heap[g']? = some (.cells C T (0, 0)) := hB
    rw [hh] at hB'
    cases hB'
    exact hT rfl
set_option maxHeartbeats 4000000 in
set_option maxRecDepth 100000 in
theorem routes_calls {w : World} {F : Nat → Prop} {b gT gM N : Nat} {fl : List Ve} {rows : List Rou2} {t : List Rq} (h : PlanAt w F b gT gM N fl rows t) (hr : ∀ i, (rows.getD i []).length ≤ 1000) :
    Calls Try.prog 9 #[.pointer (some ⟨b, 0, none⟩)] w (RsPost w rows) := by
  obtain ⟨qT, dT, cT, qs0, h⟩ := h
  have hb0 := Lib.hid (fun k wx (hb : Below w.heap.size w wx) => clone_calls (qs0.getD k (none, 0)).1 (qs0.getD k (none, 0)).2 (rows.getD k []) wx ((h.row k).below hb) (hr k))
  unfold ClPost at hb0
  have hfl := h.many.1
  have hlen := h.len
  have hbox := h.box
  obtain ⟨aT, haT⟩ : ∃ aT : Addr, (⟨gT, 0, none⟩ : Addr) = aT := ⟨_, rfl⟩
  have hto := h.tours
  rw [haT] at hbox hto
  have hld := Lib.hid (fun k (hk : k < fl.length) wx (hb : Below w.heap.size w wx) => ld_tour (hto.below hb) hk)
  have k1 := hbox.cell (i := 1) rfl
  clear h hto haT hr hbox
  have hss := Lib.hid (fun (qs : List (Option Addr × Nat)) (k : Nat) (hk : qs.length = k) q d => rsV_succ rows qs hk q d)
  have hrl := Lib.hid hlen
  clear hlen
  go_enter Try.func9, Try.ntmps9
  go_wp2_with fail
  go_loopw [12, 2] (fun s12 s2 wx => ∃ (k : Nat) (qs : List (Option Addr × Nat)), k ≤ fl.length ∧ s12 = .int .i64 k ∧ qs.length = k ∧ wx.ownsRow w.heap.size 48 1 s2 k (rsV rows qs k).flatten ∧ (∀ i, i < k → RowI wx w.heap.size (qs.getD i (none, 0)) (rows.getD i [])) ∧ Below w.heap.size w wx) (fun s12 _ _ => fl.length - (intOf s12).toNat)
  case atStart => exact ⟨0, [], Nat.zero_le _, rfl, rfl, World.ownsRow_nil _ _ _ _, (fun i hi => by omega), Below.refl _ _⟩
  case round =>
    obtain ⟨k, qs, hk, rfl, hql, hO, hI, hb⟩ := hrel
    by_cases hlt : k < fl.length
    · have hltI : (k : Int) < (fl.length : Int) := by omega
      have hk0 : (0 : Int) ≤ (k : Int) := by omega
      have s1 : IntKind.i64.wrap ((k : Int) + 1) = (k : Int) + 1 := IntWalk.i64_in _ (by omega)
      have hl := hld.out k hlt wr hb
      obtain ⟨Y, hY⟩ : ∃ Y, (trV (fl.getD k ve0) (qs0.getD k (none, 0)) (rows.getD k []).length).toArray = Y := ⟨_, rfl⟩
      have hYs : Y.size = 6 := by rw [← hY]; rfl
      have hY1 : ∀ u ∈ Y.toList, u.oneCell' = true := by rw [← hY]; exact tr_one _ _ _
      have hYq : Y[5]? = some (.slice (qs0.getD k (none, 0)).1 (rows.getD k []).length (qs0.getD k (none, 0)).2) := by rw [← hY]; rfl
      have hb1 := hb0.out k
      have hsk := hss.out qs k hql
      rw [hY] at hl
      clear hY
      obtain ⟨l, hll⟩ : ∃ l, rows.getD k [] = l := ⟨_, rfl⟩
      rw [hll] at hb1 hYq hsk
      generalize (qs0.getD k (none, 0)).1 = qk at *
      generalize (qs0.getD k (none, 0)).2 = dk at *
      obtain ⟨q2, m2, d2, rfl⟩ := own_isS hO
      have hpre := Lib.hid (show Blk (wr.alloc (.cells Y 78)) wr.heap.size Y 78 ∧ (wr.alloc (.cells Y 78)).ownsRow w.heap.size 48 1 (.slice q2 m2 d2) k (rsV rows qs k).flatten ∧
        (∀ i, i < k → RowI (wr.alloc (.cells Y 78)) w.heap.size (qs.getD i (none, 0)) (rows.getD i [])) ∧ Below w.heap.size w (wr.alloc (.cells Y 78)) from
        ⟨Blk.new _ _ _, own_mod hO ((Mod.refl (fun _ => False) wr).alloc _) (fun _ _ h => h), fun i hi => (hI i hi).mod ((Mod.refl (fun _ => False) wr).alloc _) (fun _ _ _ _ h => h), hb.alloc hb.size _⟩)
      have hsz := hb.size
      replace hl := Lib.hid hl
      replace hYs := Lib.hid hYs
      replace hY1 := Lib.hid hY1
      replace hYq := Lib.hid hYq
      replace hb1 := Lib.hid hb1
      replace hql := Lib.hid hql
      replace hsk := Lib.hid hsk
      replace hll := Lib.hid hll
      clear hb hO hI
      go_upto_region 6 with (first | (refine wpList_v rfl (.pointer (some (aT.add (k * 6)))) (run_ixTr (k := k) rfl rfl rfl (by omega)) ?_) | (refine wpList_load_v rfl 78 _ rfl (aT.add (k * 6)) rfl _ hl.out ?_) |
        (refine wpList_store_new rfl 78 _ _ rfl rfl rfl _ Y _ rfl hYs.out.symm hY1.out (by rw [hYs.out]; kernel_rfl) ?_))
      generalize hg : wr.heap.size = g at *
      refine wp_world' (fun wx => Blk wx g Y 78 ∧ wx.ownsRow w.heap.size 48 1 (.slice q2 m2 d2) k (rsV rows qs k).flatten ∧ (∀ i, i < k → RowI wx w.heap.size (qs.getD i (none, 0)) (rows.getD i [])) ∧ Below w.heap.size w wx) hpre.out ?_
      clear hpre hg hl
      rintro w1 ⟨hG, hO, hI, hb⟩
      have k5 := hG.cell hYq.out
      have hb2 := Lib.hid (hb1.out w1 hb)
      replace hO := Lib.hid hO
      replace hI := Lib.hid hI
      replace hb := Lib.hid hb
      clear hG
      have hls := Lib.hid (run_cellSt k5)
      go_wp2_with (refine wpList_load_v rfl 48 _ rfl ⟨g, 5, none⟩ rfl _ hls.out ?_)
      refine hb2.out.mono ?_
      rintro e w2 ⟨hbc, q, d, rfl, hd, hE, hown⟩
      have hOA := Lib.hid (own_mod (own_below hO.out hbc) ((Mod.refl (fun _ => False) w2).alloc (.cells #[.slice q l.length d] 48)) (fun _ _ h => h))
      have hbA := hb.out.trans (hbc.mono hb.out.size)
      have hzA := Lib.hid (show w.heap.size ≤ (w2.alloc (.cells #[.slice q l.length d] 48)).heap.size by have := hbA.size; simp; omega)
      have hlow := Lib.hid (hbA.alloc hbA.size (.cells #[.slice q l.length d] 48))
      have hb1s := hb.out.size
      have hI2 : ∀ i, i < k + 1 → RowI (w2.alloc (.cells #[.slice q l.length d] 48)) w.heap.size ((qs ++ [(q, d)]).getD i (none, 0)) (rows.getD i []) := fun i hi => by
        by_cases hik : i < k
        · have e : (qs ++ [(q, d)]).getD i (none, 0) = qs.getD i (none, 0) := by
            rw [List.getD_eq_getElem?_getD, List.getD_eq_getElem?_getD, List.getElem?_append_left (by rw [hql.out]; omega)]
          rw [e]
          exact ((hI.out i hik).mod ((Mod.refl (fun _ => False) w1).after hbc) (fun _ _ _ _ h => h)).mod ((Mod.refl (fun _ => False) w2).alloc _) (fun _ _ _ _ h => h)
        · obtain rfl : i = k := by omega
          have e : (qs ++ [(q, d)]).getD i (none, 0) = (q, d) := by
            rw [List.getD_eq_getElem?_getD, List.getElem?_append_right (by rw [hql.out]; omega), hql.out, Nat.sub_self]
            rfl
          rw [e, hll.out]
          have h0 : RowI w2 w.heap.size (q, d) l := ⟨hE, hd, fun h0 => by
            obtain ⟨g, C, e1, e2, e3, _⟩ := hown (by cases l with | nil => exact absurd rfl h0 | cons _ _ => simp)
            exact ⟨g, C, e1, Nat.le_trans hb1s e2, e3⟩⟩
          exact h0.mod ((Mod.refl (fun _ => False) w2).alloc _) (fun _ _ _ _ h => h)
      replace hI2 := Lib.hid hI2
      clear hO hI hb hb2 hE hown hbc hbA hls k5
      go_wp2_with (first | (refine wpList_bs1 rfl 29 1 0 _ rfl (.slice q l.length d) rfl _ _ (rsl_rs _ _ _ _) ?_) |
        (refine wpList_appG rs_el rfl _ _ rfl w.heap.size hzA.out _ k _ rfl hOA.out (by omega) ⟨w2.heap.size, 0, none⟩ 1 1 [.slice q l.length d] rfl rfl (by omega) (row_cells (Blk.new w2 _ _)) (by simp [Value.oneCell']) ?_; intro v7 w7 hO7 hg7))
      have hb7 := Lib.hid (grown_low hlow.out (Nat.le_refl _) (Nat.le_refl _) hOA.out hg7)
      have hI7 : ∀ i, i < k + 1 → RowI w7 w.heap.size ((qs ++ [(q, d)]).getD i (none, 0)) (rows.getD i []) := fun i hi =>
        (hI2.out i hi).mod ((Mod.refl (fun g' => (Value.slice q2 m2 d2).ownBlock = some g') _).grown hg7 (fun _ h _ => h)) (fun g C _ hB e => own_ne hOA.out e hB (by decide) rfl)
      have hO8 : w7.ownsRow w.heap.size 48 1 v7 (k + 1) (rsV rows (qs ++ [(q, d)]) (k + 1)).flatten := by
        rw [hsk.out q d, List.flatten_append]
        simpa using hO7
      replace hI7 := Lib.hid hI7
      replace hO8 := Lib.hid hO8
      clear hO7 hg7 hOA hzA hlow hI2
      go_roundw
      case rel => exact ⟨k + 1, qs ++ [(q, d)], by omega, by simp, by rw [List.length_append, hql.out]; rfl, hO8.out, hI7.out, hb7.out⟩
      case measure => simp [intOf]; omega
    · obtain rfl : k = fl.length := by omega
      obtain ⟨q2, m2, d2, rfl⟩ := own_isS hO
      obtain rfl := own_lenC hO
      have hEl := own_els (rsV_len rows qs fl.length) (by rw [rsV_size]; exact hO) (by rw [rsV_size]; omega)
      rw [rsV_size] at hEl
      obtain ⟨h1, h2, h3, h4⟩ := hEl
      clear h2
      have hG := Lib.hid (fun (h0 : 0 < fl.length) => (by obtain ⟨g, C, e1, e2, _⟩ := ownS_blk hO h0; exact ⟨g, C, e1, e2⟩ : ∃ g C, q2 = some ⟨g, 0, none⟩ ∧ Blk wr g C 48))
      replace h1 := Lib.hid h1
      replace h4 := Lib.hid h4
      replace hI := Lib.hid hI
      replace hb := Lib.hid hb
      replace hql := Lib.hid hql
      clear hO
      go_wp2_with fail
      go_ret
      refine ⟨hb.out, q2, d2, qs, by rw [hrl.out]; rfl, by rw [hrl.out]; exact h3, by rw [hrl.out]; exact hql.out, by rw [hrl.out]; exact h1.out, fun a ha => (h4.out a ha).1, fun i hi => hI.out i (by rw [← hrl.out]; exact hi), fun h0 => hG.out (by rw [← hrl.out]; exact h0)⟩
end Go.Proofs.Ytpbmeeogledmdae
