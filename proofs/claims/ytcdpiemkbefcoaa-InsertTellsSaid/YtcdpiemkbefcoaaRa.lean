/-
  Layer 11, the document's: Wrong, Way, Rise, Detour.
  Layer 11, the laws': alike.
-/
import Derived.Test.YtcdpiemkbefcoaaRm
import Derived.Test.YtcdpiemkbefcoaaWi
import Derived.Test.YtcdpiemkbefcoaaDd
namespace Go.Proofs.Ytcdpiemkbefcoaa
open Go.RowKit

theorem putP_code (x y cp st en : Int) (l : List (Int × Int)) (t : List Rq) (req i j : Int) :
    (putP x y cp st en l t req i j).2.2 = if req < 0 ∨ (t.length : Int) ≤ req ∨ l.any (fun s => s.1 == req) = true then 8 else if (tmP x y cp st en l t).2.2 ≠ 0 then (tmP x y cp st en l t).2.2 else if 16 < l.length + 2 then 11
      else if i < 0 ∨ j < i ∨ (l.length : Int) < j then 8 else 0 := by
  unfold putP
  by_cases h1 : req < 0 ∨ (t.length : Int) ≤ req ∨ l.any (fun s => s.1 == req) = true
  · rw [if_pos h1, if_pos h1]
  · rw [if_neg h1, if_neg h1]
    by_cases h2 : (tmP x y cp st en l t).2.2 ≠ 0
    · rw [if_pos h2, if_pos h2]
    · rw [if_neg h2, if_neg h2]
      by_cases h3 : 16 < l.length + 2
      · rw [if_pos h3, if_pos h3]
      · rw [if_neg h3, if_neg h3]
        unfold withP
        simp only [not_or] at h1
        by_cases h4 : i < 0 ∨ j < i ∨ (l.length : Int) < j
        · rw [if_pos h4, if_pos (by rcases h4 with h | h | h; exact .inl h; exact .inr (.inl h); exact .inr (.inr (.inl h)))]; rfl
        · rw [if_neg h4, if_neg (by
            simp only [not_or] at h4 ⊢
            exact ⟨h4.1, h4.2.1, h4.2.2, h1.1, h1.2.2, h3⟩)]; rfl

set_option maxHeartbeats 4000000 in
set_option maxRecDepth 100000 in
theorem rwrong11 (x y cp st en req i j : Int) (p p' : Option Addr) (c c' : Nat) (l : List (Int × Int)) (t : List Rq) (w : World) (hL : Els w p 2 (l.map stV)) (hc : l.length ≤ c ∧ c ≤ 9223372036854775807) (hT : Els w p' 10 (t.map rqV)) :
    Calls Try.prog 55 #[.agg #[.int .i64 x, .int .i64 y, .int .i64 cp, .int .i64 st, .int .i64 en], .slice p l.length c, .slice p' t.length c', .int .i64 req, .int .i64 i, .int .i64 j] w fun e w' =>
      e = .returned (.int .i64 (putP x y cp st en l t req i j).2.2) ∧ Below w.heap.size w w' := by
  have hbl : l.length ≤ 140737488351232 := by simpa using hL.big
  have hbt : t.length ≤ 140737488351232 := by simpa using hT.big
  have hX := putP_code x y cp st en l t req i j
  have htm := Lib.hid (fun wx (h : Below w.heap.size w wx) => times7_ref x y cp st en p p' c c' l t wx (hL.below h) hc (hT.below h))
  generalize (putP x y cp st en l t req i j).2.2 = X at hX ⊢
  generalize tmP x y cp st en l t = U at hX htm
  replace hX := Lib.hid hX
  replace hL := Lib.hid hL
  clear hT
  have hB := (Blk.new w #[.int .i64 x, .int .i64 y, .int .i64 cp, .int .i64 st, .int .i64 en] 28)
  have hlv1 := Lib.hid (run_load_row' (P := Try.prog) _ w.heap.size 28 #[.int .i64 x, .int .i64 y, .int .i64 cp, .int .i64 st, .int .i64 en] 28 _ hB Try.underlying28 rfl (by kernel_rfl))
  have hb0 := Lib.hid (new_below w (.cells #[.int .i64 x, .int .i64 y, .int .i64 cp, .int .i64 st, .int .i64 en] 28))
  obtain ⟨W1, hW1⟩ : ∃ W1, w.alloc (.cells #[.int .i64 x, .int .i64 y, .int .i64 cp, .int .i64 st, .int .i64 en] 28) = W1 := ⟨_, rfl⟩
  clear hB
  rw [hW1] at hlv1 hb0
  replace hW1 := Lib.hid hW1
  go_enter Try.func55, Try.ntmps55
  go_upto_region 1 with fail
  rw [hW1.out]
  clear hW1
  by_cases c1 : req < 0
  · obtain rfl : X = 8 := by rw [hX.out, if_pos (.inl c1)]
    clear hX
    go_wp2_with fail
    go_ret
    exact ⟨rfl, hb0.out⟩
  by_cases c2 : req ≥ (t.length : Int)
  · obtain rfl : X = 8 := by rw [hX.out, if_pos (.inr (.inl c2))]
    clear hX
    go_wp2_with fail
    go_ret
    exact ⟨rfl, hb0.out⟩
  go_wp2_with fail
  go_loopw [13] (fun iv wx => wx = W1 ∧ ∃ k : Nat, k ≤ l.length ∧ iv = .int .i64 k ∧ Hid (∀ m s, m < k → l[m]? = some s → s.1 ≠ req)) (fun iv _ => l.length - (intOf iv).toNat)
  case atStart => exact ⟨rfl, 0, Nat.zero_le _, rfl, Lib.hid (fun m s h => by omega)⟩
  case round =>
    obtain ⟨rfl, k, hk, rfl, hno⟩ := hrel
    by_cases hlt : k < l.length
    · have hltI : (k : Int) < (l.length : Int) := by omega
      have s1 : IntKind.i64.wrap ((k : Int) + 1) = (k : Int) + 1 := IntWalk.i64_in _ (by omega)
      obtain ⟨a, rfl⟩ := hL.out.some_of (k := k) (by simpa using hlt)
      have hla := (hL.out.below hb0.out).cells a rfl k (stV l[k]) 0 (.int .i64 l[k].1) (by rw [List.getElem?_map, List.getElem?_eq_getElem hlt]; rfl) rfl
      rw [Nat.add_zero] at hla
      have htk : l[k]? = some l[k] := List.getElem?_eq_getElem hlt
      obtain ⟨r, q, hs⟩ : ∃ r q, l[k] = (r, q) := ⟨_, _, rfl⟩
      rw [hs] at hla htk
      have hla' := Lib.hid (run_i64 hla)
      by_cases hr : r = req
      · obtain rfl : X = 8 := by
          rw [hX.out, if_pos (.inr (.inr (List.any_eq_true.2 ⟨(r, q), List.mem_of_getElem? htk, by simpa using hr⟩)))]
        have d1 : (r == req) = true := by simpa using hr
        clear hno htk hs hla hX hr
        go_wp2_with (refine wpList_load_v rfl 3 _ rfl (a.add (k * 2)) rfl _ hla'.out ?_)
        go_ret
        exact ⟨rfl, hb0.out⟩
      · have d1 : (r == req) = false := by simpa using hr
        have hok : Hid (∀ m s, m < k + 1 → l[m]? = some s → s.1 ≠ req) := Lib.hid (fun j u hj hju => by
          by_cases e : j = k
          · subst e; rw [htk] at hju; cases hju; exact hr
          · exact hno.out j u (by omega) hju)
        clear hno htk hs hla hr
        go_wp2_with (refine wpList_load_v rfl 3 _ rfl (a.add (k * 2)) rfl _ hla'.out ?_)
        go_roundw
        case rel => exact ⟨trivial, k + 1, by omega, by simp, hok⟩
        case measure => simp [intOf]; omega
    · obtain rfl : k = l.length := by omega
      have hX2 : Hid (X = if U.2.2 ≠ 0 then U.2.2 else if 16 < l.length + 2 then 11 else if i < 0 ∨ j < i ∨ (l.length : Int) < j then 8 else 0) := Lib.hid (by
        rw [hX.out, if_neg]
        simp only [not_or]
        refine ⟨by omega, by omega, ?_⟩
        intro h
        obtain ⟨s, hs, h2⟩ := List.any_eq_true.1 h
        obtain ⟨m, hm⟩ := List.getElem?_of_mem hs
        exact hno.out m s (List.getElem?_eq_some_iff.1 hm).1 hm (by simpa using h2))
      clear hX hno hL
      have htc := Lib.hid (htm.out _ hb0.out)
      clear htm
      go_wp2_with (refine wpList_load_v rfl 28 _ rfl ⟨w.heap.size, 0, none⟩ rfl _ hlv1.out ?_)
      refine htc.out.mono ?_
      rintro e w2 ⟨q, d, rfl, hb2, _⟩
      replace hb2 := Lib.hid (hb0.out.trans (hb2.mono hb0.out.size))
      clear htc hlv1 hb0
      obtain ⟨T, en', u⟩ := U
      dsimp only at hX2
      by_cases u0 : u = 0
      · subst u0
        replace hX2 : Hid (X = if 16 < l.length + 2 then 11 else if i < 0 ∨ j < i ∨ (l.length : Int) < j then 8 else 0) := Lib.hid (by rw [hX2.out, if_neg (by simp)])
        by_cases c5 : (l.length : Int) > 14
        · obtain rfl : X = 11 := by rw [hX2.out, if_pos (by omega)]
          clear hX2
          go_wp2_with fail
          go_ret
          exact ⟨rfl, hb2.out⟩
        replace hX2 : Hid (X = if i < 0 ∨ j < i ∨ (l.length : Int) < j then 8 else 0) := Lib.hid (by rw [hX2.out, if_neg (by omega)])
        by_cases c6 : i < 0
        · obtain rfl : X = 8 := by rw [hX2.out, if_pos (.inl c6)]
          clear hX2
          go_wp2_with fail
          go_ret
          exact ⟨rfl, hb2.out⟩
        by_cases c7 : i > j
        · obtain rfl : X = 8 := by rw [hX2.out, if_pos (.inr (.inl c7))]
          clear hX2
          go_wp2_with fail
          go_ret
          exact ⟨rfl, hb2.out⟩
        by_cases c8 : j > (l.length : Int)
        · obtain rfl : X = 8 := by rw [hX2.out, if_pos (.inr (.inr c8))]
          clear hX2
          go_wp2_with fail
          go_ret
          exact ⟨rfl, hb2.out⟩
        obtain rfl : X = 0 := by rw [hX2.out, if_neg (by simp only [not_or]; exact ⟨c6, by omega, by omega⟩)]
        clear hX2
        go_wp2_with fail
        go_ret
        exact ⟨rfl, hb2.out⟩
      · obtain rfl : X = u := by rw [hX2.out, if_pos u0]
        have d1 : (X == 0) = false := beq_eq_false_iff_ne.2 u0
        have d2 : (X != 0) = true := by rw [bne, d1]; rfl
        clear hX2
        go_wp2_with fail
        go_ret
        exact ⟨rfl, hb2.out⟩

theorem wayR_step (hx hy ax ay : Int) (p : Int × Int) (r : List (Int × Int)) (n : Int) : wayR hx hy ax ay (p :: r) n = wayR hx hy p.1 p.2 r (wrap64 (n + dsP ax ay p.1 p.2)) := rfl
theorem wayR_end (hx hy ax ay n : Int) : wayR hx hy ax ay [] n = wrap64 (n + dsP ax ay hx hy) := rfl

set_option maxHeartbeats 4000000 in
set_option maxRecDepth 100000 in
theorem rway11 (x y cp st en : Int) (p p' : Option Addr) (c c' : Nat) (l : List (Int × Int)) (t : List Rq) (w : World) (hL : Els w p 2 (l.map stV)) (hT : Els w p' 10 (t.map rqV)) :
    Calls Try.prog 59 #[.agg #[.int .i64 x, .int .i64 y, .int .i64 cp, .int .i64 st, .int .i64 en], .slice p l.length c, .slice p' t.length c'] w fun e w' =>
      e = .returned (.int .i64 (wayL (plcL x y l t))) ∧ Below w.heap.size w w' := by
  have hbl : l.length ≤ 140737488351232 := by simpa using hL.big
  have hX : wayR x y x y (l.map fun s => plP s t) 0 = wayL (plcL x y l t) := rfl
  have hp := Lib.hid (fun wx (r k : Int) (h : Below w.heap.size w wx) => place7_ref p' c' t r k wx (hT.below h))
  generalize wayL (plcL x y l t) = X at hX ⊢
  replace hX := Lib.hid hX
  replace hL := Lib.hid hL
  clear hT
  obtain ⟨V, hV⟩ : ∃ V : Array Value, #[.int .i64 x, .int .i64 y, .int .i64 cp, .int .i64 st, .int .i64 en] = V := ⟨_, rfl⟩
  have hsV : V.size = 5 := by rw [← hV]; rfl
  have hlh := Lib.hid (fun wx (h : Blk wx w.heap.size V 28) => (show (loadVar 26 ⟨w.heap.size, 0, none⟩).run Try.prog wx = .ok (.agg #[.int .i64 x, .int .i64 y]) wx from by
    have := load_part (P := Try.prog) wx w.heap.size V 28 h 0 2 (by rw [hsV]; omega) 26 _ Try.underlying26 rfl (by kernel_rfl)
    rw [this, ← hV]; rfl))
  rw [hV]
  clear hV hsV
  have hlh1 := Lib.hid (hlh.out _ (Blk.new w V 28))
  go_enter Try.func59, Try.ntmps59
  go_upto_region 2 with (first | (refine wpList_load_v rfl 26 _ rfl ⟨w.heap.size, 0, none⟩ rfl _ hlh1.out ?_) | (refine wpList_store_new rfl 26 _ _ rfl rfl rfl _ #[.int .i64 x, .int .i64 y] _ rfl rfl (pair_one _ _) (pl_size _ _) ?_))
  refine wp_world' (fun wx => Blk wx w.heap.size V 28 ∧ Blk wx (w.heap.size + 1) #[.int .i64 x, .int .i64 y] 26 ∧ Below w.heap.size w wx) ⟨(Blk.new _ _ _).alloc _, Blk.new' _ _ _ _, (new_below _ _).alloc (by simp) _⟩ ?_
  rintro w1 ⟨hV1, hA1, hb1⟩
  clear hlh1
  go_wp2_with fail
  go_loopw [8, 9] (fun s8 s9 wx => ∃ (k : Nat) (n ax ay : Int), k ≤ l.length ∧ s9 = .int .i64 k ∧ s8 = .int .i64 n ∧ Hid (wayR x y ax ay ((l.drop k).map fun s => plP s t) n = X) ∧ Blk wx w.heap.size V 28 ∧ Blk wx (w.heap.size + 1) #[.int .i64 ax, .int .i64 ay] 26 ∧ Below w.heap.size w wx) (fun _ s9 _ => l.length - (intOf s9).toNat)
  case atStart => exact ⟨0, 0, x, y, Nat.zero_le _, rfl, rfl, hX, hV1, hA1, hb1⟩
  case round =>
    clear hV1 hA1 hb1 hX
    obtain ⟨k, n, ax, ay, hk, rfl, rfl, hR, hVr, hA, hbr⟩ := hrel
    have hgA := hA.lt
    by_cases hlt : k < l.length
    · have hltI : (k : Int) < (l.length : Int) := by omega
      have s1 : IntKind.i64.wrap ((k : Int) + 1) = (k : Int) + 1 := IntWalk.i64_in _ (by omega)
      obtain ⟨a, rfl⟩ := (hL.out.below hbr).some_of (k := k) (by simpa using hlt)
      have hla := (hL.out.below hbr).load (P := Try.prog) (a := a) rfl (k := k) (by simpa using hlt) (ty := 55) Try.underlying55 rfl (by kernel_rfl)
      rw [List.getElem_map] at hla
      have hR2 := hR.out
      rw [List.drop_eq_getElem_cons hlt, List.map_cons, wayR_step] at hR2
      obtain ⟨r, q, hs⟩ : ∃ r q, l[k] = (r, q) := ⟨_, _, rfl⟩
      rw [hs] at hla hR2
      replace hla : Hid ((loadVar 55 (a.add (k * 2))).run Try.prog wr = .ok (.agg #[.int .i64 r, .int .i64 q]) wr) := Lib.hid hla
      have hcp := Lib.hid (hp.out wr r q hbr)
      have hpP : plP (r, q) t = ((ptG (r, q) t).x, (ptG (r, q) t).y) := rfl
      rw [hpP] at hR2
      dsimp only at hR2
      generalize ptG (r, q) t = g at hR2 hcp
      generalize ptB (r, q) t = bb at hcp
      have hdc := Lib.hid (fun w => dist_ref ax ay g.x g.y w)
      generalize dsP ax ay g.x g.y = d at hR2 hdc
      replace hR2 := Lib.hid hR2
      replace hVr := Lib.hid hVr
      replace hA := Lib.hid hA
      replace hbr := Lib.hid hbr
      clear hs hR hpP
      go_wp2_with (refine wpList_load_v rfl 55 _ rfl (a.add (k * 2)) rfl _ hla.out ?_)
      refine hcp.out.mono ?_
      rintro e w2 ⟨rfl, hb2⟩
      have hM2 : Mod (fun _ => False) wr w2 := (Mod.refl _ _).after hb2
      have hA2 := (hA.out.mod hM2 (fun h => h)).alloc (.cells #[.int .i64 g.x, .int .i64 g.y] 26)
      have hV2 := (hVr.out.mod hM2 (fun h => h)).alloc (.cells #[.int .i64 g.x, .int .i64 g.y] 26)
      have hP2 := Blk.new w2 #[.int .i64 g.x, .int .i64 g.y] 26
      have hb3 := (hbr.out.trans (hb2.mono hbr.out.size)).alloc (by have := hbr.out.size; have := hb2.size; omega) (.cells #[.int .i64 g.x, .int .i64 g.y] 26)
      have hgP : w.heap.size + 1 < w2.heap.size := by have := hb2.size; omega
      clear hA hVr hbr hcp hla hb2 hM2
      go_upto_region 6 with (first | (refine wpList_store_new rfl 26 _ _ rfl rfl rfl _ #[.int .i64 g.x, .int .i64 g.y] _ rfl rfl (pair_one _ _) (pl_size _ _) ?_))
      refine wp_world' (fun wx => Blk wx w.heap.size V 28 ∧ Blk wx (w.heap.size + 1) #[.int .i64 ax, .int .i64 ay] 26 ∧ Blk wx w2.heap.size #[.int .i64 g.x, .int .i64 g.y] 26 ∧ Below w.heap.size w wx) ⟨hV2, hA2, hP2, hb3⟩ ?_
      clear hV2 hA2 hP2 hb3
      generalize w2.heap.size = gP at *
      rintro w3 ⟨hV3, hA3, hP3, hb3⟩
      have hlA := Lib.hid (run_load_row' (P := Try.prog) w3 _ 26 #[.int .i64 ax, .int .i64 ay] 26 _ hA3 Try.underlying26 rfl (pl_size _ _))
      have hlP := Lib.hid (run_load_row' (P := Try.prog) w3 _ 26 #[.int .i64 g.x, .int .i64 g.y] 26 _ hP3 Try.underlying26 rfl (pl_size _ _))
      replace hV3 := Lib.hid hV3
      replace hA3 := Lib.hid hA3
      replace hP3 := Lib.hid hP3
      replace hb3 := Lib.hid hb3
      go_wp2_with (first | (refine wpList_load_v rfl 26 _ rfl ⟨w.heap.size + 1, 0, none⟩ rfl _ hlA.out ?_) | (refine wpList_load_v rfl 26 _ rfl ⟨gP, 0, none⟩ rfl _ hlP.out ?_))
      refine (hdc.out _).mono ?_
      rintro e w4 ⟨rfl, hb4⟩
      have hM4 : Mod (fun _ => False) w3 w4 := (Mod.refl _ _).after hb4
      have hV4 := Lib.hid (hV3.out.mod hM4 (fun h => h))
      have hA4 := Lib.hid (hA3.out.mod hM4 (fun h => h))
      have hP4 := hP3.out.mod hM4 (fun h => h)
      have hlP4 := Lib.hid (run_load_row' (P := Try.prog) w4 _ 26 #[.int .i64 g.x, .int .i64 g.y] 26 _ hP4 Try.underlying26 rfl (pl_size _ _))
      have hb5 := Lib.hid (hb3.out.trans (hb4.mono hb3.out.size))
      clear hV3 hA3 hP3 hb3 hlA hlP hM4 hdc hb4 hP4
      go_wp2_with (first | (refine wpList_load_v rfl 26 _ rfl ⟨gP, 0, none⟩ rfl _ hlP4.out ?_) | (refine wpList_store_row rfl 26 _ _ rfl rfl (w.heap.size + 1) rfl _ #[.int .i64 g.x, .int .i64 g.y] _ hA4.out rfl rfl (pair_one _ _) (pl_size _ _) ?_; intro w6 hA6 hM6; have hV6 := Lib.hid (hV4.out.mod hM6 (by omega)); have hb6 := Lib.hid (hb5.out.trans (hM6.below hb5.out.size (fun k h => by omega))); replace hA6 := Lib.hid hA6; clear hM6 hV4 hA4 hlP4 hb5))
      go_roundw
      case rel => exact ⟨k + 1, _, g.x, g.y, by omega, by simp, rfl, hR2, hV6.out, hA6.out, hb6.out⟩
      case measure => simp [intOf]; omega
    · obtain rfl : k = l.length := by omega
      have hR2 := hR.out
      rw [List.drop_length, List.map_nil, wayR_end] at hR2
      have hdc := Lib.hid (fun w => dist_ref ax ay x y w)
      generalize dsP ax ay x y = d at hR2 hdc
      replace hR2 := Lib.hid hR2
      have hlA := Lib.hid (run_load_row' (P := Try.prog) wr _ 26 #[.int .i64 ax, .int .i64 ay] 26 _ hA Try.underlying26 rfl (pl_size _ _))
      have hlH := Lib.hid (hlh.out wr hVr)
      replace hbr := Lib.hid hbr
      clear hR hVr hA hlh hp hL
      go_wp2_with (first | (refine wpList_load_v rfl 26 _ rfl ⟨w.heap.size + 1, 0, none⟩ rfl _ hlA.out ?_) | (refine wpList_load_v rfl 26 _ rfl ⟨w.heap.size, 0, none⟩ rfl _ hlH.out ?_))
      refine (hdc.out _).mono ?_
      rintro e w4 ⟨rfl, hb4⟩
      replace hb4 := Lib.hid (hbr.out.trans (hb4.mono hbr.out.size))
      clear hlA hlH hbr hdc
      go_wp2_with fail
      go_ret
      exact ⟨by rw [← hR2.out]; rfl, hb4.out⟩

set_option maxHeartbeats 4000000 in
set_option maxRecDepth 100000 in
theorem rrise11 (x y cp st en req i j : Int) (p p' : Option Addr) (c c' : Nat) (l : List (Int × Int)) (t : List Rq) (w : World) (hL : Els w p 2 (l.map stV)) (hc : l.length ≤ c ∧ c ≤ 9223372036854775807) (hT : Els w p' 10 (t.map rqV)) :
    Calls Try.prog 29 #[.agg #[.int .i64 x, .int .i64 y, .int .i64 cp, .int .i64 st, .int .i64 en], .slice p l.length c, .slice p' t.length c', .int .i64 req, .int .i64 i, .int .i64 j] w fun e w' =>
      e = .returned (.tuple #[.int .i64 (riseP x y cp st en l t req i j).1, .int .i64 (riseP x y cp st en l t req i j).2]) ∧ Below w.heap.size w w' := by
  have hX : riseP x y cp st en l t req i j = if (putP x y cp st en l t req i j).2.2 ≠ 0 then (0, (putP x y cp st en l t req i j).2.2) else if (fitP x y cp st en (putP x y cp st en l t req i j).1 t).2 ≠ 0 then (0, (fitP x y cp st en (putP x y cp st en l t req i j).1 t).2)
    else if (tmP x y cp st en (putP x y cp st en l t req i j).1 t).2.2 ≠ 0 then (0, (tmP x y cp st en (putP x y cp st en l t req i j).1 t).2.2) else (wrap64 ((tmP x y cp st en (putP x y cp st en l t req i j).1 t).2.1 - (putP x y cp st en l t req i j).2.1), 0) := rfl
  have hz := Lib.hid (fun h : (putP x y cp st en l t req i j).2.2 = 0 => putP_zero h)
  have hw := Lib.hid (fun wx (h : Below w.heap.size w wx) => rwrong11 x y cp st en req i j p p' c c' l t wx (hL.below h) hc (hT.below h))
  have hwi := Lib.hid (fun wx (h : Below w.heap.size w wx) => rwith_calls p c l req i j wx (hL.below h))
  have hft := Lib.hid (fun q d (m : List (Int × Int)) wx (h : Below w.heap.size w wx) (hE : Els wx q 2 (m.map stV)) hd => rfits_calls x y cp st en q p' d c' m t wx hE hd (hT.below h))
  have htm := Lib.hid (fun q d (m : List (Int × Int)) wx (h : Below w.heap.size w wx) (hE : Els wx q 2 (m.map stV)) hd => times7_ref x y cp st en q p' d c' m t wx hE hd (hT.below h))
  generalize riseP x y cp st en l t req i j = X at hX ⊢
  generalize putP x y cp st en l t req i j = U at hX hw hz
  obtain ⟨m, e0, r0⟩ := U
  dsimp only at hX hw hz
  generalize hFP : (fun m => fitP x y cp st en m t) = FP at *
  replace hFP : ∀ m, fitP x y cp st en m t = FP m := fun m => by rw [← hFP]
  generalize hTP : (fun m => tmP x y cp st en m t) = TP at *
  replace hTP : ∀ m, tmP x y cp st en m t = TP m := fun m => by rw [← hTP]
  simp only [hFP, hTP] at hX hft htm hz
  replace hX := Lib.hid hX
  replace hL := Lib.hid hL
  obtain ⟨V, hV⟩ : ∃ V : Array Value, #[.int .i64 x, .int .i64 y, .int .i64 cp, .int .i64 st, .int .i64 en] = V := ⟨_, rfl⟩
  have hsV : V.size = 5 := by rw [← hV]; rfl
  have hlv := Lib.hid (fun wx (h : Blk wx w.heap.size V 28) => run_load_row' (P := Try.prog) wx w.heap.size 28 V 28 _ h Try.underlying28 rfl (by rw [hsV]; kernel_rfl))
  rw [hV] at hw hft htm ⊢
  clear hV hsV hT hFP hTP
  go_enter Try.func29, Try.ntmps29
  go_upto_region 1 with fail
  refine wp_world' (fun wx => Blk wx w.heap.size V 28 ∧ Below w.heap.size w wx) ⟨Blk.new _ _ _, new_below _ _⟩ ?_
  rintro w1 ⟨hB, hb⟩
  have hl1 := Lib.hid (hlv.out _ hB)
  replace hB := Lib.hid hB
  go_wp2_with (refine wpList_load_v rfl 28 _ rfl ⟨w.heap.size, 0, none⟩ rfl _ hl1.out ?_)
  refine (hw.out _ hb).mono ?_
  rintro e w2 ⟨rfl, hb2⟩
  replace hB := Lib.hid (hB.out.mod ((Mod.refl (fun _ => False) _).after hb2) (fun h => h))
  replace hb := hb.trans (hb2.mono hb.size)
  clear hl1 hb2 hw
  by_cases z0 : r0 = 0
  · obtain ⟨y1, y2, y3, y4, y5, _⟩ := hz.out z0
    subst z0
    have hwc := hwi.out w2 hb
    rw [y3] at hwc
    replace hwc := Lib.hid hwc
    have hX1 : Hid (X = if (FP m).2 ≠ 0 then (0, (FP m).2) else if (TP m).2.2 ≠ 0 then (0, (TP m).2.2) else (wrap64 ((TP m).2.1 - (TP l).2.1), 0)) := Lib.hid (by rw [hX.out, if_neg (by simp), y5])
    clear hz hwi hX y1 y2 y3 y5 y4
    go_wp2_with fail
    refine hwc.out.mono ?_
    rintro e w3 ⟨⟨q, d, rfl, hd, hE⟩, hb3⟩
    replace hB := Lib.hid (hB.out.mod ((Mod.refl (fun _ => False) _).after hb3) (fun h => h))
    replace hb := hb.trans (hb3.mono hb.size)
    replace hE : Els w3 q 2 (m.map stV) := hE
    replace hd : m.length ≤ d ∧ d ≤ 9223372036854775807 := hd
    have hl1 := Lib.hid (hlv.out _ hB.out)
    have hfc := Lib.hid (hft.out q d m w3 hb hE hd)
    replace hE := Lib.hid hE
    clear hb3 hwc hft
    rw [show ((some m).getD []).length = m.length from rfl, show (some m).isSome = true from rfl]
    go_wp2_with (refine wpList_load_v rfl 28 _ rfl ⟨w.heap.size, 0, none⟩ rfl _ hl1.out ?_)
    refine hfc.out.mono ?_
    rintro e w4 ⟨rfl, hb4⟩
    replace hB := Lib.hid (hB.out.mod ((Mod.refl (fun _ => False) _).after hb4) (fun h => h))
    replace hb := hb.trans (hb4.mono hb.size)
    replace hE := Lib.hid (hE.out.below hb4)
    clear hfc hl1 hb4
    generalize FP m = F at hX1 ⊢
    obtain ⟨f1, f2⟩ := F
    dsimp only at hX1 ⊢
    by_cases f0 : f2 = 0
    · subst f0
      replace hX1 : Hid (X = if (TP m).2.2 ≠ 0 then (0, (TP m).2.2) else (wrap64 ((TP m).2.1 - (TP l).2.1), 0)) := Lib.hid (by rw [hX1.out, if_neg (by simp)])
      have hl1 := Lib.hid (hlv.out _ hB.out)
      have htc := Lib.hid (htm.out p c l w4 hb (hL.out.below hb) hc)
      go_wp2_with (refine wpList_load_v rfl 28 _ rfl ⟨w.heap.size, 0, none⟩ rfl _ hl1.out ?_)
      refine htc.out.mono ?_
      rintro e w5 ⟨q5, d5, rfl, hb5, _⟩
      replace hB := Lib.hid (hB.out.mod ((Mod.refl (fun _ => False) _).after hb5) (fun h => h))
      replace hb := hb.trans (hb5.mono hb.size)
      replace hE := Lib.hid (hE.out.below hb5)
      clear hl1 htc hb5
      have hl1 := Lib.hid (hlv.out _ hB.out)
      have htc := Lib.hid (htm.out q d m w5 hb hE.out hd)
      generalize TP l = T1 at *
      generalize TP m = T2 at *
      obtain ⟨T1a, T1b, T1c⟩ := T1
      obtain ⟨T2a, T2b, T2c⟩ := T2
      dsimp only at hX1 htc ⊢
      go_wp2_with (refine wpList_load_v rfl 28 _ rfl ⟨w.heap.size, 0, none⟩ rfl _ hl1.out ?_)
      refine htc.out.mono ?_
      rintro e w6 ⟨q6, d6, rfl, hb6, _⟩
      replace hb := Lib.hid (hb.trans (hb6.mono hb.size))
      clear hl1 htc hb6 hB hE hlv htm hL
      by_cases t0 : T2c = 0
      · obtain rfl : X = (wrap64 (T2b - T1b), 0) := by rw [hX1.out, if_neg (by simpa using t0)]
        subst t0
        clear hX1
        go_wp2_with fail
        go_ret2
        exact ⟨rfl, hb.out⟩
      · obtain rfl : X = (0, T2c) := by rw [hX1.out, if_pos t0]
        have g1 : (T2c == 0) = false := beq_eq_false_iff_ne.2 t0
        have g2 : (T2c != 0) = true := by rw [bne, g1]; rfl
        clear hX1
        go_wp2_with fail
        go_ret2
        exact ⟨rfl, hb.out⟩
    · obtain rfl : X = (0, f2) := by rw [hX1.out, if_pos f0]
      have g1 : (f2 == 0) = false := beq_eq_false_iff_ne.2 f0
      have g2 : (f2 != 0) = true := by rw [bne, g1]; rfl
      clear hX1 hB hE hlv htm hL
      go_wp2_with fail
      go_ret2
      exact ⟨rfl, hb⟩
  · obtain rfl : X = (0, r0) := by rw [hX.out, if_pos z0]
    have g1 : (r0 == 0) = false := beq_eq_false_iff_ne.2 z0
    have g2 : (r0 != 0) = true := by rw [bne, g1]; rfl
    clear hX hB hlv hL hz hft htm hwi
    go_wp2_with fail
    go_ret2
    exact ⟨rfl, hb⟩

set_option maxHeartbeats 4000000 in
set_option maxRecDepth 100000 in
theorem rdetour11 (x y cp st en req i j : Int) (p p' : Option Addr) (c c' : Nat) (l : List (Int × Int)) (t : List Rq) (w : World) (hL : Els w p 2 (l.map stV)) (hc : l.length ≤ c ∧ c ≤ 9223372036854775807) (hT : Els w p' 10 (t.map rqV)) :
    Calls Try.prog 30 #[.agg #[.int .i64 x, .int .i64 y, .int .i64 cp, .int .i64 st, .int .i64 en], .slice p l.length c, .slice p' t.length c', .int .i64 req, .int .i64 i, .int .i64 j] w fun e w' =>
      e = .returned (.tuple #[.int .i64 (detP x y cp st en l t req i j).1, .int .i64 (detP x y cp st en l t req i j).2]) ∧ Below w.heap.size w w' := by
  have hX : detP x y cp st en l t req i j = if (putP x y cp st en l t req i j).2.2 ≠ 0 then (0, (putP x y cp st en l t req i j).2.2)
    else (wrap64 (wayL (plcL x y (putP x y cp st en l t req i j).1 t) - wayL (plcL x y l t)), 0) := rfl
  have hz := Lib.hid (fun h : (putP x y cp st en l t req i j).2.2 = 0 => putP_zero h)
  have hw := Lib.hid (fun wx (h : Below w.heap.size w wx) => rwrong11 x y cp st en req i j p p' c c' l t wx (hL.below h) hc (hT.below h))
  have hwi := Lib.hid (fun wx (h : Below w.heap.size w wx) => rwith_calls p c l req i j wx (hL.below h))
  have hwy := Lib.hid (fun q d (m : List (Int × Int)) wx (h : Below w.heap.size w wx) (hE : Els wx q 2 (m.map stV)) => rway11 x y cp st en q p' d c' m t wx hE (hT.below h))
  generalize detP x y cp st en l t req i j = X at hX ⊢
  generalize putP x y cp st en l t req i j = U at hX hw hz
  obtain ⟨m, e0, r0⟩ := U
  dsimp only at hX hw hz
  generalize hP : (fun m : List (Int × Int) => wayL (plcL x y m t)) = PL at *
  replace hP : ∀ m, wayL (plcL x y m t) = PL m := fun m => by rw [← hP]
  simp only [hP] at hX hwy
  replace hX := Lib.hid hX
  replace hL := Lib.hid hL
  obtain ⟨V, hV⟩ : ∃ V : Array Value, #[.int .i64 x, .int .i64 y, .int .i64 cp, .int .i64 st, .int .i64 en] = V := ⟨_, rfl⟩
  have hsV : V.size = 5 := by rw [← hV]; rfl
  have hlv := Lib.hid (fun wx (h : Blk wx w.heap.size V 28) => run_load_row' (P := Try.prog) wx w.heap.size 28 V 28 _ h Try.underlying28 rfl (by rw [hsV]; kernel_rfl))
  rw [hV] at hw hwy ⊢
  clear hV hsV hT hP
  go_enter Try.func30, Try.ntmps30
  go_upto_region 1 with fail
  refine wp_world' (fun wx => Blk wx w.heap.size V 28 ∧ Below w.heap.size w wx) ⟨Blk.new _ _ _, new_below _ _⟩ ?_
  rintro w1 ⟨hB, hb⟩
  have hl1 := Lib.hid (hlv.out _ hB)
  replace hB := Lib.hid hB
  go_wp2_with (refine wpList_load_v rfl 28 _ rfl ⟨w.heap.size, 0, none⟩ rfl _ hl1.out ?_)
  refine (hw.out _ hb).mono ?_
  rintro e w2 ⟨rfl, hb2⟩
  replace hB := Lib.hid (hB.out.mod ((Mod.refl (fun _ => False) _).after hb2) (fun h => h))
  replace hb := hb.trans (hb2.mono hb.size)
  clear hl1 hb2 hw
  by_cases z0 : r0 = 0
  · obtain ⟨y1, y2, y3, y4, y5, _⟩ := hz.out z0
    subst z0
    have hwc := hwi.out w2 hb
    rw [y3] at hwc
    replace hwc := Lib.hid hwc
    have hX1 : Hid (X = (wrap64 (PL m - PL l), 0)) := Lib.hid (by rw [hX.out, if_neg (by simp)])
    clear hz hwi hX y1 y2 y3 y5 y4
    go_wp2_with fail
    refine hwc.out.mono ?_
    rintro e w3 ⟨⟨q, d, rfl, hd, hE⟩, hb3⟩
    replace hB := Lib.hid (hB.out.mod ((Mod.refl (fun _ => False) _).after hb3) (fun h => h))
    replace hb := Lib.hid (hb.trans (hb3.mono hb.size))
    replace hE : Els w3 q 2 (m.map stV) := hE
    replace hE := Lib.hid hE
    clear hb3 hwc
    rw [show ((some m).getD []).length = m.length from rfl, show (some m).isSome = true from rfl]
    have hlz := Lib.hid (fun z : Later (fun _ => False) w3 => hlv.out z.val (hB.out.mod z.mod (fun h => h)))
    have hc1 := Lib.hid (fun z : Later (fun _ => False) w3 => hwy.out q d m z.val (hb.out.trans (z.mod.below hb.out.size (fun _ h => h.elim))) (hE.out.below (z.mod.below (Nat.le_refl _) (fun _ h => h.elim))))
    have hc2 := Lib.hid (fun z : Later (fun _ => False) w3 => hwy.out p c l z.val (hb.out.trans (z.mod.below hb.out.size (fun _ h => h.elim))) (hL.out.below (hb.out.trans (z.mod.below hb.out.size (fun _ h => h.elim)))))
    clear hwy hlv hB hE hL
    go_upto_region 5 with fail
    refine wp_region_later (w0 := w3) (S := fun _ => False) (Mod.refl _ _) (by kernel_rfl) (by kernel_rfl) ?_
    refine wpQuiet_v (by kernel_rfl) (.agg V) (by rintro _ ⟨z, rfl⟩; exact run_load_v rfl rfl (hlz.out z)) ?_
    simp only [Act.put, List.setIfInBounds_toArray, List.set_cons_succ, List.set_cons_zero]
    go_big_quiet_step (fail)
    go_big_quiet_step (fail)
    go_big_quiet_step (((go_at_call 59; with_reducible exact Calls.later (hc1.out _))))
    refine wpQuiet_v (by kernel_rfl) (.agg V) (by rintro _ ⟨z, rfl⟩; exact run_load_v rfl rfl (hlz.out z)) ?_
    simp only [Act.put, List.setIfInBounds_toArray, List.set_cons_succ, List.set_cons_zero]
    go_big_quiet_step (fail)
    go_big_quiet_step (fail)
    go_big_quiet_step (((go_at_call 59; with_reducible exact Calls.later (hc2.out _))))
    go_big_quiet_step (fail)
    go_big_quiet_step (fail)
    go_big_quiet_step (fail)
    refine wpQuiet_nil ?_
    rintro _ ⟨z, rfl⟩
    obtain rfl := hX1.out
    have hb4 := Lib.hid (hb.out.trans (z.mod.below hb.out.size (fun _ h => h.elim)))
    clear hX1 hlz hc1 hc2 hb
    go_wp2_with fail
    go_ret2
    exact ⟨rfl, hb4.out⟩
  · obtain rfl : X = (0, r0) := by rw [hX.out, if_pos z0]
    have g1 : (r0 == 0) = false := beq_eq_false_iff_ne.2 z0
    have g2 : (r0 != 0) = true := by rw [bne, g1]; rfl
    clear hX hB hlv hL hz hwy hwi
    go_wp2_with fail
    go_ret2
    exact ⟨rfl, hb⟩
end Go.Proofs.Ytcdpiemkbefcoaa
namespace Go.Proofs.Ytcdpiemkbefcoaa
open Go.RowKit

set_option maxHeartbeats 4000000 in
set_option maxRecDepth 100000 in
theorem alike_calls (x y cp st en req i j : Int) (p p' : Option Addr) (c c' : Nat) (l : List (Int × Int)) (t : List Rq) (w : World) (hL : Els w p 2 (l.map stV)) (hc : l.length ≤ c ∧ c ≤ 9223372036854775807) (hT : Els w p' 10 (t.map rqV)) :
    Calls Try.prog 11 #[.agg #[.int .i64 x, .int .i64 y, .int .i64 cp, .int .i64 st, .int .i64 en], .slice p l.length c, .slice p' t.length c', .int .i64 req, .int .i64 i, .int .i64 j] w fun e w' => e = .returned (.bool true) ∧ Below w.heap.size w w' := by
  have h1 := Lib.hid (fun wx (h : Below w.heap.size w wx) => rise_calls x y cp st en req i j p p' c c' l t wx (hL.below h) hc.1 (hT.below h))
  have h2 := Lib.hid (fun wx (h : Below w.heap.size w wx) => rrise11 x y cp st en req i j p p' c c' l t wx (hL.below h) hc (hT.below h))
  have h3 := Lib.hid (fun wx (h : Below w.heap.size w wx) => detour_calls x y cp st en req i j p p' c c' l t wx (hL.below h) hc.1 (hT.below h))
  have h4 := Lib.hid (fun wx (h : Below w.heap.size w wx) => rdetour11 x y cp st en req i j p p' c c' l t wx (hL.below h) hc (hT.below h))
  generalize riseP x y cp st en l t req i j = R at *
  generalize detP x y cp st en l t req i j = D at *
  obtain ⟨r1, r2⟩ := R
  obtain ⟨d1, d2⟩ := D
  dsimp only at h1 h2 h3 h4
  obtain ⟨V, hV⟩ : ∃ V : Array Value, #[.int .i64 x, .int .i64 y, .int .i64 cp, .int .i64 st, .int .i64 en] = V := ⟨_, rfl⟩
  have hsV : V.size = 5 := by rw [← hV]; rfl
  have hlv := Lib.hid (fun wx (h : Blk wx w.heap.size V 28) => run_load_row' (P := Try.prog) wx w.heap.size 28 V 28 _ h Try.underlying28 rfl (by rw [hsV]; kernel_rfl))
  rw [hV] at h1 h2 h3 h4 ⊢
  clear hV hsV hT hL hc
  go_enter Try.func11, Try.ntmps11
  go_upto_region 1 with fail
  refine wp_world' (fun wx => Blk wx w.heap.size V 28 ∧ Below w.heap.size w wx) ⟨Blk.new _ _ _, new_below _ _⟩ ?_
  rintro w1 ⟨hB, hb⟩
  have hl1 := Lib.hid (hlv.out _ hB)
  replace hB := Lib.hid hB
  go_wp2_with (refine wpList_load_v rfl 28 _ rfl ⟨w.heap.size, 0, none⟩ rfl _ hl1.out ?_)
  refine (h1.out _ hb).mono ?_
  rintro e w2 ⟨rfl, hb2⟩
  replace hB := Lib.hid (hB.out.mod ((Mod.refl (fun _ => False) _).after hb2) (fun h => h))
  replace hb := hb.trans (hb2.mono hb.size)
  clear hl1 hb2 h1
  have hl1 := Lib.hid (hlv.out _ hB.out)
  go_wp2_with (refine wpList_load_v rfl 28 _ rfl ⟨w.heap.size, 0, none⟩ rfl _ hl1.out ?_)
  refine (h2.out _ hb).mono ?_
  rintro e w3 ⟨rfl, hb3⟩
  replace hB := Lib.hid (hB.out.mod ((Mod.refl (fun _ => False) _).after hb3) (fun h => h))
  replace hb := hb.trans (hb3.mono hb.size)
  clear hl1 hb3 h2
  have hl1 := Lib.hid (hlv.out _ hB.out)
  go_wp2_with (refine wpList_load_v rfl 28 _ rfl ⟨w.heap.size, 0, none⟩ rfl _ hl1.out ?_)
  refine (h3.out _ hb).mono ?_
  rintro e w4 ⟨rfl, hb4⟩
  replace hB := Lib.hid (hB.out.mod ((Mod.refl (fun _ => False) _).after hb4) (fun h => h))
  replace hb := hb.trans (hb4.mono hb.size)
  clear hl1 hb4 h3
  have hl1 := Lib.hid (hlv.out _ hB.out)
  go_wp2_with (refine wpList_load_v rfl 28 _ rfl ⟨w.heap.size, 0, none⟩ rfl _ hl1.out ?_)
  refine (h4.out _ hb).mono ?_
  rintro e w5 ⟨rfl, hb5⟩
  replace hb := hb.trans (hb5.mono hb.size)
  clear hl1 hb5 h4 hB hlv
  go_wp2_with fail
  go_ret
  exact ⟨rfl, hb⟩
end Go.Proofs.Ytcdpiemkbefcoaa
