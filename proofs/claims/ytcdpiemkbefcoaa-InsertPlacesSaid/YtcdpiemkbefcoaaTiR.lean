/-
  The document's layer 7: Times.
-/
import Derived.Test.YtcdpiemkbefcoaaTi
namespace Go.Proofs.Ytcdpiemkbefcoaa
open Go.RowKit

theorem wpList_bs1 {P : Program} {ops : Array Oper} {rest : List Oper} {o : Oper} {a : Act} {w : World} {Q : Exit → Act → World → Prop} (hgd : o.guard = none) (t : TypeId) (n i : Nat) (x : Operand) (ho : o.op = .buildSlice t n #[(i, x)])
    (vx : Value) (hx : a.eval x = vx) (v : Value) (w' : World) (hrun : (Instr.buildSlice t n #[(i, vx)]).run P w = .ok v w') (h : wpList P ops Q rest (a.put o.dst v) w') : wpList P ops Q (o :: rest) a w :=
  wpList_bsd hgd hrun ho (by simp only [List.map_toArray, List.map_cons, List.map_nil, hx]) h
theorem own_blk_lt {w : World} {base n k g : Nat} {E : TypeId} {v : Value} {xs : List Value} (h : w.ownsRow base E n v k xs) (hg : v.ownBlock = some g) : base ≤ g ∧ g < w.heap.size := by
  rcases h.2 with ⟨hv, _⟩ | ⟨g', cap, cur, hv, hg', hw, _⟩
  · rw [hv] at hg; cases hg
  · rw [hv] at hg; cases hg; exact ⟨hg', (Array.getElem?_eq_some_iff.1 hw).1⟩
theorem own_cap {w : World} {base n m k c : Nat} {p : Option Addr} {E : TypeId} {xs : List Value} (h : w.ownsRow base E n (.slice p k c) m xs) : c ≤ 9223372036854775807 := by
  rcases h.2 with ⟨hv, _⟩ | ⟨g, cap, cur, hv, hg, hw, hk, hm, _⟩
  · cases hv; omega
  · cases hv; exact Nat.le_trans hm (by decide)
theorem chkP_len {l : List (Int × Int)} (h : chkP l = 0) : l.length ≤ 16 := by
  unfold chkP at h
  by_cases h1 : l.length > 16
  · rw [if_pos h1] at h; cases h
  · omega
theorem tmRun_cons (t : List Rq) (s : Int × Int) (r : List (Int × Int)) (ax ay now : Int) : tmRun t (s :: r) ax ay now = if waB (ptG s t).e (ptG s t).l (now + dsP ax ay (ptG s t).x (ptG s t).y) = true then
      (tmRun t r (ptG s t).x (ptG s t).y (waN (ptG s t).e (ptG s t).l (now + dsP ax ay (ptG s t).x (ptG s t).y) + (ptG s t).s)).map fun q =>
        ((now + dsP ax ay (ptG s t).x (ptG s t).y, waN (ptG s t).e (ptG s t).l (now + dsP ax ay (ptG s t).x (ptG s t).y), waN (ptG s t).e (ptG s t).l (now + dsP ax ay (ptG s t).x (ptG s t).y) + (ptG s t).s) :: q.1, q.2)
    else none := rfl
set_option maxHeartbeats 4000000 in
set_option maxRecDepth 100000 in
theorem times7_ref (x y cp st en : Int) (p p' : Option Addr) (c c' : Nat) (l : List (Int × Int)) (t : List Rq) (w : World) (hL : Els w p 2 (l.map stV)) (hc : l.length ≤ c ∧ c ≤ 9223372036854775807) (hT : Els w p' 10 (t.map rqV)) :
    Calls Try.prog 58 #[.agg #[.int .i64 x, .int .i64 y, .int .i64 cp, .int .i64 st, .int .i64 en], .slice p l.length c, .slice p' t.length c'] w (TmPost w (tmP x y cp st en l t)) := by
  have hbl : l.length ≤ 140737488351232 := by simpa using hL.big
  have hbt : t.length ≤ 140737488351232 := by simpa using hT.big
  have hX : tmP x y cp st en l t = if wrP x y cp st en l t ≠ 0 then ([], 0, wrP x y cp st en l t)
    else match tmRun t l x y st with | none => ([], 0, 9) | some (L, ax, ay, now) => if en < now + dsP ax ay x y then ([], 0, 9) else (L, now + dsP ax ay x y, 0) := rfl
  have hw := Lib.hid (fun wx (h : Below w.heap.size w wx) => wrong7_ref x y cp st en p p' c c' l t wx (hL.below h) hc (hT.below h))
  have hz := Lib.hid (fun h : wrP x y cp st en l t = 0 => wrP_zero h)
  generalize tmP x y cp st en l t = X at hX ⊢
  generalize wrP x y cp st en l t = wr at hX hw hz
  replace hX := Lib.hid hX
  replace hL := Lib.hid hL
  replace hT := Lib.hid hT
  have hp := Lib.hid (fun wx (r k : Int) (h : Below w.heap.size w wx) => place7_ref p' c' t r k wx (hT.out.below h))
  have hwi := Lib.hid (fun wx (r k : Int) (h : Below w.heap.size w wx) => window7_ref p' c' t r k wx (hT.out.below h))
  obtain ⟨V, hV⟩ : ∃ V : Array Value, #[.int .i64 x, .int .i64 y, .int .i64 cp, .int .i64 st, .int .i64 en] = V := ⟨_, rfl⟩
  have g0 : V[0]? = some (.int .i64 x) := by rw [← hV]; rfl
  have g1 : V[1]? = some (.int .i64 y) := by rw [← hV]; rfl
  have g3 : V[3]? = some (.int .i64 st) := by rw [← hV]; rfl
  have g4 : V[4]? = some (.int .i64 en) := by rw [← hV]; rfl
  have hsV : V.size = 5 := by rw [← hV]; rfl
  have hlv := Lib.hid (fun wx (h : Blk wx w.heap.size V 28) => run_load_row' (P := Try.prog) wx w.heap.size 28 V 28 _ h Try.underlying28 rfl (by rw [hsV]; kernel_rfl))
  have hlh := Lib.hid (fun wx (h : Blk wx w.heap.size V 28) => (show (loadVar 26 ⟨w.heap.size, 0, none⟩).run Try.prog wx = .ok (.agg #[.int .i64 x, .int .i64 y]) wx from by
    have := load_part (P := Try.prog) wx w.heap.size V 28 h 0 2 (by rw [hsV]; omega) 26 _ Try.underlying26 rfl (by kernel_rfl)
    rw [this, ← hV]; rfl))
  rw [hV] at hw ⊢
  clear hV hsV
  go_enter Try.func58, Try.ntmps58
  go_upto_region 1 with fail
  refine wp_world' (fun wx => Blk wx w.heap.size V 28 ∧ Below w.heap.size w wx) ⟨Blk.new _ _ _, new_below _ _⟩ ?_
  rintro w1 ⟨hB, hb⟩
  have hlv1 := Lib.hid (hlv.out _ hB)
  have HB := Lib.hid hB
  clear hB hlv
  go_wp2_with (refine wpList_load_v rfl 28 _ rfl ⟨w.heap.size, 0, none⟩ rfl _ hlv1.out ?_)
  refine (hw.out _ hb).mono ?_
  rintro e w2 ⟨rfl, hb2⟩
  have HB2 := Lib.hid (HB.out.mod ((Mod.refl (fun _ => False) _).after hb2) (fun h => h))
  replace hb2 := hb.trans (hb2.mono hb.size)
  clear hlv1 hw hb HB
  by_cases v0 : wr = 0
  · subst v0
    obtain ⟨z1, z2, z3, z4⟩ := hz.out rfl
    have hl16 := chkP_len z3
    clear z3
    obtain ⟨_, _, q1, q2, q3⟩ := vehCode_zero z1
    replace z2 := Lib.hid z2
    replace z4 := Lib.hid z4
    have hX2 : Hid (X = match tmRun t l x y st with | none => ([], 0, 9) | some (L, ax, ay, now) => if en < now + dsP ax ay x y then ([], 0, 9) else (L, now + dsP ax ay x y, 0)) := Lib.hid (hX.out.trans (if_neg (by simp)))
    clear hX hz z1
    have k3 := HB2.out.cell g3
    have k0 := HB2.out.cell g0
    have k1 := HB2.out.cell g1
    have k3' := (HB2.out.alloc (.cells #[.int .i64 0, .int .i64 0] 26)).cell g3
    have k0' := (HB2.out.alloc (.cells #[.int .i64 0, .int .i64 0] 26)).cell g0
    have k1' := (HB2.out.alloc (.cells #[.int .i64 0, .int .i64 0] 26)).cell g1
    have k3'' := (HB2.out.alloc (.cells #[.int .i64 x, .int .i64 y] 26)).cell g3
    go_upto_region 5 with fail
    go_region
    go_upto_region 6 with fail
    refine wp_world' (fun wx => Blk wx w.heap.size V 28 ∧ Blk wx w2.heap.size #[.int .i64 x, .int .i64 y] 26 ∧ Below w.heap.size w wx)
      ⟨(HB2.out.alloc _).drew, (Blk.new _ _ _).drew, (hb2.alloc hb2.size _).drew⟩ ?_
    rintro w3 ⟨hV3, hA3, hb3⟩
    have hgA : w.heap.size < w2.heap.size := HB2.out.lt
    have hgB : w2.heap.size < w3.heap.size := hA3.lt
    clear k0 k1 k3 k0' k1' k3' k3'' HB2 hb2 g0 g1 g3
    generalize w2.heap.size = gA at *
    generalize hgs : w3.heap.size = gs at *
    replace hgs := Lib.hid hgs
    go_wp2_with fail
    go_loopw [10, 12, 13] (fun o nw i wr => ∃ (k : Nat) (L : Tms) (ax ay now : Int), k ≤ l.length ∧ i = .int .i64 k ∧ nw = .int .i64 now ∧ (0 ≤ now ∧ now ≤ 1050000) ∧ L.length = k ∧ Hid (tmRun t l x y st = (tmRun t (l.drop k) ax ay now).map fun q => (L ++ q.1, q.2)) ∧
      wr.ownsRow gs 98 3 o L.length (L.map tmV).flatten ∧ Blk wr gA #[.int .i64 ax, .int .i64 ay] 26 ∧ Blk wr w.heap.size V 28 ∧ Below w.heap.size w wr ∧ gs ≤ wr.heap.size) (fun _ _ i _ => l.length - (intOf i).toNat)
    case atStart => exact ⟨0, [], x, y, st, Nat.zero_le _, rfl, rfl, by omega, rfl, Lib.hid (by rw [List.drop_zero]; cases tmRun t l x y st <;> rfl), World.ownsRow_nil _ _ _ _, hA3, hV3, hb3, by rw [hgs.out]; exact Nat.le_refl _⟩
    case round =>
      obtain ⟨k, L, ax, ay, now, hk, rfl, rfl, hnow, hLk, hR, hown, hA, hVr, hbr, hgr⟩ := hrel
      by_cases hlt : k < l.length
      · have hltI : (k : Int) < (l.length : Int) := by omega
        obtain ⟨a, rfl⟩ := (hL.out.below hbr).some_of (k := k) (by simpa using hlt)
        have hla := Lib.hid (fun wx (h : Below w.heap.size w wx) => (hL.out.below h).load (P := Try.prog) (a := a) rfl (k := k) (by simpa using hlt) (ty := 55) Try.underlying55 rfl (by kernel_rfl))
        have hl0 := Lib.hid (fun wx (h : Below w.heap.size w wx) => (hL.out.below h).one (a := a) rfl (k := k) (by simpa using hlt) 0 (.int .i64 (l[k].1)) (by rw [List.getElem_map]; rfl))
        have hstep : tmRun t (l.drop k) ax ay now = tmRun t (l[k] :: l.drop (k + 1)) ax ay now := by rw [List.drop_eq_getElem_cons hlt]
        have hpb := z4.out _ (List.getElem_mem hlt)
        obtain ⟨n, hn1, hn2, hn3⟩ := pt_there hpb
        have hsv := rqE_serve (z2.out _ (List.getElem_mem hn2))
        rw [← hn3] at hsv
        rw [List.getElem_map] at hla
        obtain ⟨r, q, hs⟩ : ∃ r q, l[k] = (r, q) := ⟨_, _, rfl⟩
        rw [hs] at hla hl0 hstep hpb hn1 hn3 hsv
        simp only at hn1 hl0
        subst hn1
        obtain ⟨a', rfl⟩ := (hT.out.below hbr).some_of (k := n) (by simpa using hn2)
        have hl9 := Lib.hid (fun wx (h : Below w.heap.size w wx) => (hT.out.below h).one (a := a') rfl (k := n) (by simpa using hn2) 9 (.int .i64 (t[n] 9)) (by rw [List.getElem_map]; rfl))
        rw [← hn3] at hl9
        have hcp := Lib.hid (fun wx (h : Below w.heap.size w wx) => (by have := hp.out wx (n : Int) q h; rwa [hpb] at this : Calls Try.prog 81 #[.agg #[.int .i64 (n : Int), .int .i64 q], .slice (some a') t.length c'] wx fun e w' => e = .returned (.tuple #[.agg #[.int .i64 (ptG ((n : Int), q) t).x, .int .i64 (ptG ((n : Int), q) t).y], .bool true]) ∧ Below wx.heap.size wx w'))
        have hcw := Lib.hid (fun wx (h : Below w.heap.size w wx) => (by have := hwi.out wx (n : Int) q h; rwa [hpb] at this : Calls Try.prog 82 #[.agg #[.int .i64 (n : Int), .int .i64 q], .slice (some a') t.length c'] wx fun e w' => e = .returned (.tuple #[.agg #[.int .i64 (ptG ((n : Int), q) t).e, .int .i64 (ptG ((n : Int), q) t).l], .bool true]) ∧ Below wx.heap.size wx w'))
        have hR2 := hR.out
        rw [hstep, tmRun_cons] at hR2
        generalize ptG ((n : Int), q) t = g at hR2 hcp hcw hl9 hsv
        have hds := dsP_bd ax ay g.x g.y
        have hdc := Lib.hid (fun w => dist_ref ax ay g.x g.y w)
        generalize dsP ax ay g.x g.y = d at hR2 hds hdc
        have s1 : IntKind.i64.wrap (now + d) = now + d := IntWalk.i64_in _ (by omega)
        have hwc := Lib.hid (fun w => wait_ref g.e g.l (now + d) w)
        have hwb := fun h => waN_bd (e := g.e) (l := g.l) (a := now + d) h
        generalize waB g.e g.l (now + d) = wb at hR2 hwc hwb
        generalize waN g.e g.l (now + d) = wn at hR2 hwc hwb
        have hwnb : wb = true → 0 ≤ wn ∧ wn ≤ 1048576 := hwb
        clear hwb
        replace hwnb := Lib.hid hwnb
        replace hR2 := Lib.hid hR2
        have hla1 := Lib.hid (hla.out wr hbr)
        go_upto_region 9 with fail
        go_wp2_with (first | (refine wpList_load_v rfl 55 _ rfl (a.add (k * 2)) rfl _ hla1.out ?_))
        refine (hcp.out wr hbr).mono ?_
        rintro e w4 ⟨rfl, hb4⟩
        have hM4 : Mod (fun _ => False) wr w4 := (Mod.refl _ _).after hb4
        have hgB4 : wr.heap.size ≤ w4.heap.size := hb4.size
        replace hM4 := Lib.hid hM4
        clear hb4 hla1 hcp
        go_upto_region 10 with (refine wpList_store_new rfl 26 _ _ rfl rfl rfl _ #[.int .i64 g.x, .int .i64 g.y] _ rfl rfl (pair_one _ _) (pl_size _ _) ?_)
        generalize hbP : w4.heap.size = bP
        refine wp_world' (fun wx => Blk wx bP #[.int .i64 g.x, .int .i64 g.y] 26 ∧ Mod (fun _ => False) wr wx ∧ Below w.heap.size w wx)
          ⟨by rw [← hbP]; exact Blk.new _ _ _, hM4.out.alloc _, hbr.trans ((hM4.out.alloc _).below hbr.size (fun _ h => h.elim))⟩ ?_
        rintro w5 ⟨hP5, hM5, hb5⟩
        have hla5 := Lib.hid (hla.out w5 hb5)
        have HP5 := Lib.hid hP5
        replace hM5 := Lib.hid hM5
        have hPlt : bP < w5.heap.size := hP5.lt
        rw [hbP] at hgB4
        clear hbP hM4 hP5
        go_wp2_with (first | (refine wpList_load_v rfl 55 _ rfl (a.add (k * 2)) rfl _ hla5.out ?_))
        refine (hcw.out w5 hb5).mono ?_
        rintro e w6 ⟨rfl, hb6⟩
        have hM6 := Lib.hid (hM5.out.after hb6)
        have HP6 := Lib.hid (HP5.out.mod ((Mod.refl (fun _ => False) _).after hb6) (fun h => h))
        have hgB6 : w5.heap.size ≤ w6.heap.size := hb6.size
        clear hb6 hla5 hcw HP5 hM5 hb5
        go_upto_region 11 with (refine wpList_store_new rfl 45 _ _ rfl rfl rfl _ #[.int .i64 g.e, .int .i64 g.l] _ rfl rfl (pair_one _ _) (wi_size _ _) ?_)
        generalize hbW : w6.heap.size = bW
        refine wp_world' (fun wx => Blk wx bP #[.int .i64 g.x, .int .i64 g.y] 26 ∧ Blk wx bW #[.int .i64 g.e, .int .i64 g.l] 45 ∧ Mod (fun _ => False) wr wx)
          ⟨HP6.out.alloc _, by rw [← hbW]; exact Blk.new _ _ _, hM6.out.alloc _⟩ ?_
        rintro w7 ⟨hP7, hW7, hM7⟩
        have hlA := Lib.hid (run_load_row' (P := Try.prog) w7 gA 26 #[.int .i64 ax, .int .i64 ay] 26 _ (hA.mod hM7 (fun h => h)) Try.underlying26 rfl (pl_size _ _))
        have hlP := Lib.hid (run_load_row' (P := Try.prog) w7 bP 26 #[.int .i64 g.x, .int .i64 g.y] 26 _ hP7 Try.underlying26 rfl (pl_size _ _))
        have HP7 := Lib.hid hP7
        have HW7 := Lib.hid hW7
        replace hM7 := Lib.hid hM7
        have hgW : bW < w7.heap.size := hW7.lt
        clear HP6 hM6 hP7 hW7
        rw [hbW] at hgB6
        clear hbW
        go_wp2_with (first | (refine wpList_load_v rfl 26 _ rfl ⟨gA, 0, none⟩ rfl _ hlA.out ?_) | (refine wpList_load_v rfl 26 _ rfl ⟨bP, 0, none⟩ rfl _ hlP.out ?_))
        refine (hdc.out _).mono ?_
        rintro e w8 ⟨rfl, hb8⟩
        have hM8 := Lib.hid (hM7.out.after hb8)
        have HP8 := Lib.hid (HP7.out.mod ((Mod.refl (fun _ => False) _).after hb8) (fun h => h))
        have HW8 := Lib.hid (HW7.out.mod ((Mod.refl (fun _ => False) _).after hb8) (fun h => h))
        have hgW8 : w7.heap.size ≤ w8.heap.size := hb8.size
        clear hb8 hM7 HP7 HW7 hlA hlP hdc
        go_upto_region 12 with fail
        generalize hbT : w8.heap.size = bT
        refine wp_world' (fun wx => Blk wx bP #[.int .i64 g.x, .int .i64 g.y] 26 ∧ Blk wx bW #[.int .i64 g.e, .int .i64 g.l] 45 ∧ Blk wx bT (tmV (now + d, 0, 0)).toArray 98 ∧ Mod (fun _ => False) wr wx)
          ⟨HP8.out.alloc _, HW8.out.alloc _, by rw [← hbT]; exact Blk.new _ _ _, hM8.out.alloc _⟩ ?_
        rintro w9 ⟨hP9, hW9, hT9, hM9⟩
        have hlW := Lib.hid (run_load_row' (P := Try.prog) w9 bW 45 #[.int .i64 g.e, .int .i64 g.l] 45 _ hW9 Try.underlying45 rfl (wi_size _ _))
        have kT0 : w9.cell? ⟨bT, 0, none⟩ = some (.int .i64 (now + d)) := hT9.cell (i := 0) rfl
        have HP9 := Lib.hid hP9
        have HT9 := Lib.hid hT9
        replace hM9 := Lib.hid hM9
        rw [hbT] at hgW8
        clear hbT hP9 hT9 hW9 hM8 HP8 HW8
        go_wp2_with (first | (refine wpList_load_v rfl 45 _ rfl ⟨bW, 0, none⟩ rfl _ hlW.out ?_))
        refine (hwc.out _).mono ?_
        rintro e w10 ⟨rfl, hb10⟩
        have hM10 := Lib.hid (hM9.out.after hb10)
        have HP10 := Lib.hid (HP9.out.mod ((Mod.refl (fun _ => False) _).after hb10) (fun h => h))
        have HT10 := Lib.hid (HT9.out.mod ((Mod.refl (fun _ => False) _).after hb10) (fun h => h))
        clear hb10 hM9 HP9 HT9 hlW hwc kT0
        cases wb with
        | false =>
          have hX3 : X = ([], 0, 9) := by
            have := hR2.out
            rw [if_neg (by simp)] at this
            rw [hX2.out, this]
            rfl
          subst hX3
          clear hX2 hR2 hR hwnb
          go_wp2_with fail
          go_ret3
          exact tm_none rfl (hbr.trans (hM10.out.below hbr.size (fun _ h => h.elim)))
        | true =>
          have hwq := hwnb.out rfl
          clear hwnb
          have hR3 : Hid (tmRun t l x y st = (tmRun t (l.drop (k + 1)) g.x g.y (wn + g.s)).map fun q => ((L ++ [(now + d, wn, wn + g.s)]) ++ q.1, q.2)) := Lib.hid (by
            have := hR2.out
            rw [if_pos rfl, Option.map_map] at this
            rw [this]
            congr 1
            funext q
            simp)
          have s2 : IntKind.i64.wrap (wn + g.s) = wn + g.s := IntWalk.i64_in _ (by omega)
          have s3 : IntKind.i64.wrap ((k : Int) + 1) = (k : Int) + 1 := IntWalk.i64_in _ (by omega)
          clear hR2 hR hX2
          have kT1 := HT10.out.cell (i := 1) rfl
          have fT1 := HT10.out.froz 1
          go_upto_region 16 with fail
          refine wp_world' (fun wx => Blk wx bP #[.int .i64 g.x, .int .i64 g.y] 26 ∧ Blk wx bT (tmV (now + d, wn, 0)).toArray 98 ∧ Mod (fun _ => False) wr wx)
            ⟨HP10.out.other (show bP ≠ bT by omega) _, HT10.out.set 1 _, hM10.out.setCell (p := ⟨bT, 1, none⟩) (fun h => absurd (show bT < wr.heap.size from h) (by omega)) _⟩ ?_
          rintro w11 ⟨hP11, hT11, hM11⟩
          have hb11 := Lib.hid (hbr.trans (hM11.below hbr.size (fun _ h => h.elim)))
          have hl0' := hl0.out w11 hb11.out
          rw [addr_add_add, Nat.add_zero] at hl0'
          have hl9' : w11.cell? ⟨(a'.add (n * 10)).block, (a'.add (n * 10)).off + 9, none⟩ = some (.int .i64 g.s) := hl9.out w11 hb11.out
          have HP11 := Lib.hid hP11
          have HT11 := Lib.hid hT11
          have HM11 := Lib.hid hM11
          have kT2 := hT11.cell (i := 2) rfl
          have fT2 := hT11.froz 2
          clear hP11 hT11 hM11 HP10 HT10 hM10 kT1 fT1
          go_upto_region 17 with fail
          refine wp_world' (fun wx => Blk wx bP #[.int .i64 g.x, .int .i64 g.y] 26 ∧ Blk wx bT (tmV (now + d, wn, wn + g.s)).toArray 98 ∧ Mod (fun _ => False) wr wx)
            ⟨HP11.out.other (show bP ≠ bT by omega) _, HT11.out.set 2 _, HM11.out.setCell (p := ⟨bT, 2, none⟩) (fun h => absurd (show bT < wr.heap.size from h) (by omega)) _⟩ ?_
          rintro w12 ⟨hP12, hT12, hM12⟩
          have hlT := Lib.hid (run_load_row' (P := Try.prog) w12 bT 98 (tmV (now + d, wn, wn + g.s)).toArray 98 _ hT12 Try.underlying98 rfl (tm_size _ _ _))
          have hbr12 := Lib.hid (hbr.trans (hM12.below hbr.size (fun _ h => h.elim)))
          have hownA := Lib.hid (own_mod (own_mod hown hM12 (fun _ _ h => h)) ((Mod.refl (fun _ => False) w12).alloc (.cells (tmV (now + d, wn, wn + g.s)).toArray 98)) (fun _ _ h => h))
          have hzA : gs ≤ (w12.alloc (.cells (tmV (now + d, wn, wn + g.s)).toArray 98)).heap.size := by have := hM12.size; simp; omega
          have hLl : L.length ≤ 100000 := by omega
          have hPA := Lib.hid (hP12.alloc (.cells (tmV (now + d, wn, wn + g.s)).toArray 98))
          have hTA := Lib.hid (hT12.alloc (.cells (tmV (now + d, wn, wn + g.s)).toArray 98))
          have hMA := Lib.hid (hM12.alloc (.cells (tmV (now + d, wn, wn + g.s)).toArray 98))
          clear hl0' hl9' HP11 HT11 HM11 hb11 kT2 fT2 hP12 hT12 hM12 hl0 hl9 hla
          replace hzA := Lib.hid hzA
          go_upto_region 18 with (first | (refine wpList_load_v rfl 98 _ rfl ⟨bT, 0, none⟩ rfl _ hlT.out ?_) | (refine wpList_bs1 rfl 66 1 0 _ rfl (.agg (tmV (now + d, wn, wn + g.s)).toArray) rfl _ _ (rsl_tm (now + d, wn, wn + g.s) _) ?_) |
            (refine wpList_appG tm_el rfl _ _ rfl gs hzA.out _ L.length _ rfl hownA.out hLl _ 1 1 (tmV (now + d, wn, wn + g.s)) rfl rfl (by omega) (row_cells (Blk.new _ _ _)) (tm_one _) ?_; intro v' w13 hown' hg'))
          have hne : ∀ b, wr.heap.size ≤ b → some b ≠ u10.ownBlock := fun b hb e => by have := (own_blk_lt hown e.symm).2; omega
          have hP13 := blk_grown hPA.out hg' (hne bP (by omega))
          have hT13 := blk_grown hTA.out hg' (hne bT (by omega))
          have hA13 := grown_blk (hA.mod hMA.out (fun h => h)) hownA.out (by omega) hg'
          have hV13 := grown_blk (hVr.mod hMA.out (fun h => h)) hownA.out (by omega) hg'
          have hb13 := grown_low (hbr.trans (hMA.out.below hbr.size (fun _ h => h.elim))) (by omega) (Nat.le_refl _) hownA.out hg'
          have hz13 : gs ≤ w13.heap.size := Nat.le_trans hzA.out hg'.size
          have kP0 := hP13.cell (i := 0) rfl
          have kP1 := hP13.cell (i := 1) rfl
          have kT2 := hT13.cell (i := 2) rfl
          have kA0 := hA13.cell (i := 0) rfl
          have kA1 := hA13.cell (i := 1) rfl
          have fA0 := hA13.froz 0
          have fA1 := hA13.froz 1
          have HA13 := Lib.hid hA13
          have HV13 := Lib.hid hV13
          have HB13 := Lib.hid hb13
          have HO13 := Lib.hid hown'
          clear hP13 hT13 hA13 hV13 hb13 hown' hg' hPA hTA hMA hownA hzA hlT hbr12 hown hA hVr hbr hne
          go_region
          clear kP0 kP1 kT2 kA0 kA1 fA0 fA1
          go_wp2_with fail
          go_roundw
          case rel =>
            have hmS : Mod (· = gA) w13 ((w13.setCell ⟨gA, 0, none⟩ (.int .i64 g.x)).setCell ⟨gA, 1, none⟩ (.int .i64 g.y)).drew :=
              (Mod.setCell (Mod.setCell (Mod.refl (· = gA) w13) (p := ⟨gA, 0, none⟩) (fun _ => rfl) _) (p := ⟨gA, 1, none⟩) (fun _ => rfl) _).drew
            have hO := own_mod HO13.out hmS (fun b hb e => by have := (own_blk_lt HO13.out hb).1; omega)
            have hD := HB13.out.trans (hmS.below HB13.out.size (fun b e => by omega))
            refine ⟨k + 1, L ++ [(now + d, wn, wn + g.s)], g.x, g.y, wn + g.s, by omega, by simp, rfl, by omega, by simp; omega, hR3, ?_, ((HA13.out.set 0 _).set 1 _).drew, HV13.out.mod hmS (by omega), hD, by simpa using hz13⟩
            rw [List.map_append, List.flatten_append, List.length_append]
            simpa using hO
          case measure => simp [intOf]; omega
      · obtain rfl : k = l.length := by omega
        have hR2 : tmRun t l x y st = some (L, ax, ay, now) := by
          have := hR.out
          rw [List.drop_length] at this
          rw [this]
          simp [tmRun]
        have hX3 : Hid (X = if en < now + dsP ax ay x y then ([], 0, 9) else (L, now + dsP ax ay x y, 0)) := Lib.hid (by rw [hX2.out, hR2])
        have hds := dsP_bd ax ay x y
        have hdc := Lib.hid (fun w => dist_ref ax ay x y w)
        generalize dsP ax ay x y = d at hX3 hds hdc
        have s1 : IntKind.i64.wrap (now + d) = now + d := IntWalk.i64_in _ (by omega)
        have hlA := Lib.hid (run_load_row' (P := Try.prog) wr gA 26 #[.int .i64 ax, .int .i64 ay] 26 _ hA Try.underlying26 rfl (pl_size _ _))
        have hlH := Lib.hid (hlh.out wr hVr)
        clear hR hR2 hX2 hp hwi hlh hA
        go_wp2_with (first | (refine wpList_load_v rfl 26 _ rfl ⟨gA, 0, none⟩ rfl _ hlA.out ?_) | (refine wpList_load_v rfl 26 _ rfl ⟨w.heap.size, 0, none⟩ rfl _ hlH.out ?_))
        refine (hdc.out _).mono ?_
        rintro e w4 ⟨rfl, hb4⟩
        have hown4 := Lib.hid (own_below hown hb4)
        have k4 := (hVr.mod ((Mod.refl (fun _ => False) _).after hb4) (fun h => h)).cell g4
        have hbe := Lib.hid (hbr.trans (hb4.mono hbr.size))
        clear hown hVr hbr hb4 hlA hlH hdc
        by_cases hlate : en < now + d
        · obtain rfl : X = ([], 0, 9) := by rw [hX3.out, if_pos hlate]
          clear hX3
          go_wp2_with fail
          go_ret3
          exact tm_none rfl hbe.out
        · obtain rfl : X = (L, now + d, 0) := by rw [hX3.out, if_neg hlate]
          clear hX3
          go_wp2_with fail
          go_ret3
          obtain ⟨p0, m0, c0, rfl⟩ := own_isS hown4.out
          have hEl := own_els (tmV_len L) (by simpa using hown4.out) (by simp; omega)
          simp only [List.length_map] at hEl
          obtain ⟨h1, rfl, h3, h4⟩ := hEl
          exact ⟨p0, c0, rfl, hbe.out, h1, h3, own_cap hown4.out, fun a ha => ⟨by have := (h4 a ha).1; omega, (h4 a ha).2.2⟩⟩
  · have hX2 : X = ([], 0, wr) := hX.out.trans (if_pos v0)
    have d1 : (wr == 0) = false := beq_eq_false_iff_ne.2 v0
    have d2 : (wr != 0) = true := by rw [bne, d1]; rfl
    subst hX2
    clear hX hz
    go_wp2_with fail
    go_ret3
    exact tm_none rfl hb2
end Go.Proofs.Ytcdpiemkbefcoaa
