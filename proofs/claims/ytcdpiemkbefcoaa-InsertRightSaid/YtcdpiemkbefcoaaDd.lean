/-
  Layer 11, the program's: put, Rise.
  Layer 11, the program's: places, way.
  Layer 11, the program's: way, Detour.
  Layer 11, the program's: Detour.
-/
import Derived.Test.YtcdpiemkbefcoaaWi
import Derived.Test.YtcdpiemkbefcoaaTmT
import Derived.Test.YtcdpiemkbefcoaaFt
namespace Go.Proofs.Ytcdpiemkbefcoaa
open Go.RowKit

def puW (e : Int) : Option (List (Int × Int)) → List (Int × Int) × Int × Int
  | none => ([], 0, 8)
  | some m => (m, e, 0)
/-- the route with a request more, and the end of the one without it -/
def putP (x y cp st en : Int) (l : List (Int × Int)) (t : List Rq) (req i j : Int) : List (Int × Int) × Int × Int :=
  if req < 0 ∨ (t.length : Int) ≤ req ∨ l.any (fun s => s.1 == req) = true then ([], 0, 8)
  else if (tmP x y cp st en l t).2.2 ≠ 0 then ([], 0, (tmP x y cp st en l t).2.2)
  else if 16 < l.length + 2 then ([], 0, 11)
  else puW (tmP x y cp st en l t).2.1 (withP l req i j)
def PuPost (w : World) (R : List (Int × Int) × Int × Int) (e : Ending) (w' : World) : Prop :=
  (∃ q d, e = .returned (.tuple #[.slice q R.1.length d, .int .i64 R.2.1, .int .i64 R.2.2]) ∧ R.1.length ≤ d ∧ Els w' q 2 (R.1.map stV)) ∧ Below w.heap.size w w'
theorem pu_none {w w' : World} {k e : Int} (hb : Below w.heap.size w w') : PuPost w ([], k, e) (.returned (.tuple #[.slice none 0 0, .int .i64 k, .int .i64 e])) w' :=
  ⟨⟨none, 0, rfl, Nat.le_refl _, ⟨fun _ => rfl, fun x hx => (by cases hx), by simp, fun a ha => by cases ha⟩⟩, hb⟩
theorem put1_calls (b : Nat) (r k req : Int) (w : World) (h : w.cell? ⟨b, 0, none⟩ = some (.int .i64 req)) :
    Calls Try.prog 60 #[.agg #[.int .i64 r, .int .i64 k], .pointer (some ⟨b, 0, none⟩)] w fun e w' => e = .returned (.bool (r == req)) ∧ Below w.heap.size w w' := by
  have hb := new_below w (.cells #[.int .i64 r, .int .i64 k] 55)
  have hB := Blk.new w #[.int .i64 r, .int .i64 k] 55
  have h1 := hB.cell (i := 0) rfl
  have h2 := cellA (.cells #[.int .i64 r, .int .i64 k] 55) h
  clear hB
  go_enter Try.func60, Try.ntmps60
  go_wp2
  go_ret
  exact ⟨rfl, hb⟩

set_option maxHeartbeats 2000000 in
set_option maxRecDepth 100000 in
theorem put_calls (x y cp st en req i j : Int) (p p' : Option Addr) (c c' : Nat) (l : List (Int × Int)) (t : List Rq) (w : World) (hL : Els w p 2 (l.map stV)) (hc : l.length ≤ c) (hT : Els w p' 10 (t.map rqV)) :
    Calls Try.prog 31 #[.agg #[.int .i64 x, .int .i64 y, .int .i64 cp, .int .i64 st, .int .i64 en], .slice p l.length c, .slice p' t.length c', .int .i64 req, .int .i64 i, .int .i64 j] w (PuPost w (putP x y cp st en l t req i j)) := by
  have hbl : l.length ≤ 140737488351232 := by simpa using hL.big
  have hbt : t.length ≤ 140737488351232 := by simpa using hT.big
  have hX : putP x y cp st en l t req i j = if req < 0 ∨ (t.length : Int) ≤ req ∨ l.any (fun s => s.1 == req) = true then ([], 0, 8)
    else if (tmP x y cp st en l t).2.2 ≠ 0 then ([], 0, (tmP x y cp st en l t).2.2)
    else if 16 < l.length + 2 then ([], 0, 11)
    else puW (tmP x y cp st en l t).2.1 (withP l req i j) := rfl
  have hcon := Lib.hid (fun wx (h : Below w.heap.size w wx) (hq : wx.cell? ⟨w.heap.size + 1, 0, none⟩ = some (.int .i64 req)) => contains_stop p c l 60 #[.pointer (some ⟨w.heap.size + 1, 0, none⟩)] (fun s => s.1 == req) wx (hL.below h) (enters_of Try.func60 (by kernel_rfl) rfl)
    (fun r _ wy hy => put1_calls (w.heap.size + 1) r.1 r.2 req wy ((hy.cell (World.block_lt_of_cell? wx _ hq)).trans hq)))
  have ht := Lib.hid (fun wx (h : Below w.heap.size w wx) => times_calls x y cp st en p p' c c' l t wx (hL.below h) (hT.below h))
  have hwi := Lib.hid (fun wx (h : Below w.heap.size w wx) => with_calls p c l req i j wx (hL.below h) hc)
  generalize putP x y cp st en l t req i j = X at hX ⊢
  generalize l.any (fun s => s.1 == req) = b at hX hcon
  generalize withP l req i j = M at hX hwi
  generalize tmP x y cp st en l t = T at hX ht
  obtain ⟨L, en2, e2⟩ := T
  simp only at hX
  replace hX := Lib.hid hX
  obtain ⟨V, hV⟩ : ∃ V : Array Value, #[.int .i64 x, .int .i64 y, .int .i64 cp, .int .i64 st, .int .i64 en] = V := ⟨_, rfl⟩
  have hsV : V.size = 5 := by rw [← hV]; rfl
  have hlv := Lib.hid (fun wx (h : Blk wx w.heap.size V 28) => run_load_row' (P := Try.prog) wx w.heap.size 28 V 28 _ h Try.underlying28 rfl (by rw [hsV]; kernel_rfl))
  rw [hV] at ht ⊢
  clear hV hsV hL hT
  go_enter Try.func31, Try.ntmps31
  go_upto_region 1 with fail
  refine wp_world' (fun wx => Blk wx w.heap.size V 28 ∧ Blk wx (w.heap.size + 1) #[.int .i64 req] 3 ∧ Below w.heap.size w wx)
    ⟨(Blk.new _ _ _).alloc _, Blk.new' _ _ _ _, (new_below _ _).alloc (by simp) _⟩ ?_
  rintro w1 ⟨hB, hR, hb⟩
  have hq := hR.cell (i := 0) rfl
  by_cases c1 : req < 0
  · obtain rfl : X = ([], 0, 8) := by rw [hX.out, if_pos (.inl c1)]
    clear hX hcon ht hwi hlv
    go_wp2
    go_ret3
    exact pu_none hb
  by_cases c2 : req ≥ (t.length : Int)
  · obtain rfl : X = ([], 0, 8) := by rw [hX.out, if_pos (.inr (.inl c2))]
    clear hX hcon ht hwi hlv
    go_wp2
    go_ret3
    exact pu_none hb
  have hcn := Lib.hid (hcon.out w1 hb hq)
  replace hB := Lib.hid hB
  replace hR := Lib.hid hR
  clear hcon
  go_wp2_with fail
  refine hcn.out.mono ?_
  rintro e w2 ⟨rfl, hb2⟩
  have hM : Mod (fun _ => False) w1 w2 := (Mod.refl _ _).after hb2
  replace hB := hB.out.mod hM (fun h => h)
  replace hR := hR.out.mod hM (fun h => h)
  replace hb := hb.trans (hb2.mono hb.size)
  clear hM hb2 hq hcn
  cases b with
  | true =>
    obtain rfl : X = ([], 0, 8) := by rw [hX.out, if_pos (.inr (.inr rfl))]
    clear hX ht hwi hlv hB hR
    go_wp2
    go_ret3
    exact pu_none hb
  | false =>
    replace hX : Hid (X = if e2 ≠ 0 then (([], 0, e2) : List (Int × Int) × Int × Int) else if 16 < l.length + 2 then ([], 0, 11) else puW en2 M) := Lib.hid (by rw [hX.out, if_neg (by simp; omega)])
    have hlv2 := Lib.hid (hlv.out _ hB)
    replace hB := Lib.hid hB
    replace hR := Lib.hid hR
    clear hlv
    go_wp2_with (refine wpList_load_v rfl 28 _ rfl ⟨w.heap.size, 0, none⟩ rfl _ hlv2.out ?_)
    refine (ht.out _ hb).mono ?_
    rintro e w3 ⟨q, d, rfl, hb3, _, _, _⟩
    have hM : Mod (fun _ => False) w2 w3 := (Mod.refl _ _).after hb3
    have hq := (hR.out.mod hM (fun h => h)).cell (i := 0) rfl
    replace hb := hb.trans (hb3.mono hb.size)
    clear hM hb3 hlv2 ht hB hR
    by_cases e0 : e2 = 0
    · subst e0
      have s1 : IntKind.i64.wrap ((l.length : Int) + 2) = (l.length : Int) + 2 := IntWalk.i64_in _ (by omega)
      replace hX : Hid (X = if 16 < l.length + 2 then (([], 0, 11) : List (Int × Int) × Int × Int) else puW en2 M) := Lib.hid (by rw [hX.out, if_neg (by simp)])
      by_cases c5 : (l.length : Int) + 2 > 16
      · obtain rfl : X = ([], 0, 11) := by rw [hX.out, if_pos (by omega)]
        clear hX hwi
        go_wp2_with fail
        go_ret3
        exact pu_none hb
      · replace hX : Hid (X = puW en2 M) := Lib.hid (by rw [hX.out, if_neg (by omega)])
        go_wp2_with fail
        refine (hwi.out _ hb).mono ?_
        rintro e w4 ⟨⟨q2, d2, rfl, ⟨hd1, hd2⟩, hE⟩, hb4⟩
        replace hb := hb.trans (hb4.mono hb.size)
        clear hb4 hwi
        cases M with
        | none =>
          obtain rfl : X = ([], 0, 8) := hX.out
          clear hX
          go_wp2_with fail
          go_ret3
          exact pu_none hb
        | some m =>
          obtain rfl : X = (m, en2, 0) := hX.out
          replace hE := Lib.hid hE
          clear hX
          go_wp2_with fail
          go_ret3
          exact ⟨⟨q2, d2, rfl, hd1, hE.out⟩, hb⟩
    · obtain rfl : X = ([], 0, e2) := by rw [hX.out, if_pos e0]
      have g1 : (e2 == 0) = false := beq_eq_false_iff_ne.2 e0
      have g2 : (e2 != 0) = true := by rw [bne, g1]; rfl
      clear hX hwi
      go_wp2_with fail
      go_ret3
      exact pu_none hb

/-- by how much a route's end is later -/
def riseP (x y cp st en : Int) (l : List (Int × Int)) (t : List Rq) (req i j : Int) : Int × Int :=
  if (putP x y cp st en l t req i j).2.2 ≠ 0 then (0, (putP x y cp st en l t req i j).2.2)
  else if (fitP x y cp st en (putP x y cp st en l t req i j).1 t).2 ≠ 0 then (0, (fitP x y cp st en (putP x y cp st en l t req i j).1 t).2)
  else if (tmP x y cp st en (putP x y cp st en l t req i j).1 t).2.2 ≠ 0 then (0, (tmP x y cp st en (putP x y cp st en l t req i j).1 t).2.2)
  else (wrap64 ((tmP x y cp st en (putP x y cp st en l t req i j).1 t).2.1 - (putP x y cp st en l t req i j).2.1), 0)

set_option maxHeartbeats 2000000 in
set_option maxRecDepth 100000 in
theorem rise_calls (x y cp st en req i j : Int) (p p' : Option Addr) (c c' : Nat) (l : List (Int × Int)) (t : List Rq) (w : World) (hL : Els w p 2 (l.map stV)) (hc : l.length ≤ c) (hT : Els w p' 10 (t.map rqV)) :
    Calls Try.prog 15 #[.agg #[.int .i64 x, .int .i64 y, .int .i64 cp, .int .i64 st, .int .i64 en], .slice p l.length c, .slice p' t.length c', .int .i64 req, .int .i64 i, .int .i64 j] w fun e w' =>
      e = .returned (.tuple #[.int .i64 (riseP x y cp st en l t req i j).1, .int .i64 (riseP x y cp st en l t req i j).2]) ∧ Below w.heap.size w w' := by
  have hX : riseP x y cp st en l t req i j = if (putP x y cp st en l t req i j).2.2 ≠ 0 then (0, (putP x y cp st en l t req i j).2.2)
    else if (fitP x y cp st en (putP x y cp st en l t req i j).1 t).2 ≠ 0 then (0, (fitP x y cp st en (putP x y cp st en l t req i j).1 t).2)
    else if (tmP x y cp st en (putP x y cp st en l t req i j).1 t).2.2 ≠ 0 then (0, (tmP x y cp st en (putP x y cp st en l t req i j).1 t).2.2)
    else (wrap64 ((tmP x y cp st en (putP x y cp st en l t req i j).1 t).2.1 - (putP x y cp st en l t req i j).2.1), 0) := rfl
  have hp := Lib.hid (fun wx (h : Below w.heap.size w wx) => put_calls x y cp st en req i j p p' c c' l t wx (hL.below h) hc (hT.below h))
  have hf := Lib.hid (fun q d m wx (h : Below w.heap.size w wx) hE => fits_calls x y cp st en q p' d c' m t wx hE (hT.below h))
  have ht := Lib.hid (fun q d m wx (h : Below w.heap.size w wx) hE => times_calls x y cp st en q p' d c' m t wx hE (hT.below h))
  generalize riseP x y cp st en l t req i j = X at hX ⊢
  generalize putP x y cp st en l t req i j = U at hX hp
  obtain ⟨m, e0, r0⟩ := U
  simp only at hX
  replace hf := Lib.hid (fun q d => hf.out q d m)
  replace ht := Lib.hid (fun q d => ht.out q d m)
  generalize fitP x y cp st en m t = F at hX hf
  obtain ⟨f1, f2⟩ := F
  generalize tmP x y cp st en m t = T at hX ht
  obtain ⟨L, en2, e2⟩ := T
  simp only at hX
  replace hX := Lib.hid hX
  obtain ⟨V, hV⟩ : ∃ V : Array Value, #[.int .i64 x, .int .i64 y, .int .i64 cp, .int .i64 st, .int .i64 en] = V := ⟨_, rfl⟩
  have hsV : V.size = 5 := by rw [← hV]; rfl
  have hlv := Lib.hid (fun wx (h : Blk wx w.heap.size V 28) => run_load_row' (P := Try.prog) wx w.heap.size 28 V 28 _ h Try.underlying28 rfl (by rw [hsV]; kernel_rfl))
  rw [hV] at hp ht hf ⊢
  clear hV hsV hL hT
  go_enter Try.func15, Try.ntmps15
  go_upto_region 1 with fail
  refine wp_world' (fun wx => Blk wx w.heap.size V 28 ∧ Below w.heap.size w wx) ⟨Blk.new _ _ _, new_below _ _⟩ ?_
  rintro w1 ⟨hB, hb⟩
  have hl1 := Lib.hid (hlv.out _ hB)
  replace hB := Lib.hid hB
  go_wp2_with (refine wpList_load_v rfl 28 _ rfl ⟨w.heap.size, 0, none⟩ rfl _ hl1.out ?_)
  refine (hp.out _ hb).mono ?_
  rintro e w2 ⟨⟨q, d, rfl, hd, hE⟩, hb2⟩
  have hM : Mod (fun _ => False) w1 w2 := (Mod.refl _ _).after hb2
  replace hB := Lib.hid (hB.out.mod hM (fun h => h))
  replace hb := hb.trans (hb2.mono hb.size)
  replace hE : Els w2 q 2 (m.map stV) := hE
  clear hM hb2 hl1 hp
  by_cases z0 : r0 = 0
  · subst z0
    have hl2 := Lib.hid (hlv.out _ hB.out)
    have hfc := Lib.hid (hf.out q d _ hb hE)
    replace hE := Lib.hid hE
    clear hf
    go_wp2_with (refine wpList_load_v rfl 28 _ rfl ⟨w.heap.size, 0, none⟩ rfl _ hl2.out ?_)
    refine hfc.out.mono ?_
    rintro e w3 ⟨rfl, hb3⟩
    have hM : Mod (fun _ => False) w2 w3 := (Mod.refl _ _).after hb3
    replace hB := Lib.hid (hB.out.mod hM (fun h => h))
    replace hE := hE.out.below hb3
    replace hb := hb.trans (hb3.mono hb.size)
    clear hM hb3 hl2 hfc
    by_cases z1 : f2 = 0
    · subst z1
      have hl3 := Lib.hid (hlv.out _ hB.out)
      have htc := Lib.hid (ht.out q d _ hb hE)
      clear ht hE hB hlv
      go_wp2_with (refine wpList_load_v rfl 28 _ rfl ⟨w.heap.size, 0, none⟩ rfl _ hl3.out ?_)
      refine htc.out.mono ?_
      rintro e w4 ⟨q4, d4, rfl, hb4, _, _, _⟩
      replace hb := hb.trans (hb4.mono hb.size)
      clear hb4 htc hl3
      by_cases z2 : e2 = 0
      · subst z2
        obtain rfl : X = (wrap64 (en2 - e0), 0) := by rw [hX.out, if_neg (by simp), if_neg (by simp), if_neg (by simp)]
        clear hX
        go_wp2_with fail
        go_ret2
        exact ⟨rfl, hb⟩
      · obtain rfl : X = (0, e2) := by rw [hX.out, if_neg (by simp), if_neg (by simp), if_pos z2]
        have g1 : (e2 == 0) = false := beq_eq_false_iff_ne.2 z2
        have g2 : (e2 != 0) = true := by rw [bne, g1]; rfl
        clear hX
        go_wp2_with fail
        go_ret2
        exact ⟨rfl, hb⟩
    · obtain rfl : X = (0, f2) := by rw [hX.out, if_neg (by simp), if_pos z1]
      have g1 : (f2 == 0) = false := beq_eq_false_iff_ne.2 z1
      have g2 : (f2 != 0) = true := by rw [bne, g1]; rfl
      clear hX hE hB hlv ht
      go_wp2_with fail
      go_ret2
      exact ⟨rfl, hb⟩
  · obtain rfl : X = (0, r0) := by rw [hX.out, if_pos z0]
    have g1 : (r0 == 0) = false := beq_eq_false_iff_ne.2 z0
    have g2 : (r0 != 0) = true := by rw [bne, g1]; rfl
    clear hX hE hB hlv ht hf
    go_wp2_with fail
    go_ret2
    exact ⟨rfl, hb⟩
end Go.Proofs.Ytcdpiemkbefcoaa
namespace Go.Proofs.Ytcdpiemkbefcoaa
open Go.RowKit

/-- a stop's place -/
def plP (s : Int × Int) (t : List Rq) : Int × Int := ((ptG s t).x, (ptG s t).y)
theorem pl_el : ElT Try.prog 80 26 2 16 := ⟨Try.underlying80, by kernel_rfl, by kernel_rfl, by kernel_rfl, by omega, by omega⟩
theorem rsl_pl (r k : Int) (w : World) : (Instr.buildSlice 80 1 #[(0, .agg #[.int .i64 r, .int .i64 k])]).run Try.prog w = .ok (.slice (some ⟨w.heap.size, 0, none⟩) 1 1) (w.alloc (.cells (stV (r, k)).toArray 26)) := by kernel_rfl

set_option maxHeartbeats 1000000 in
set_option maxRecDepth 100000 in
theorem splace_calls (p : Option Addr) (cap : Nat) (t : List Rq) (r k : Int) (w : World) (hE : Els w p 10 (t.map rqV)) :
    Calls Try.prog 63 #[.agg #[.int .i64 r, .int .i64 k], .slice p t.length cap] w fun e w' => e = .returned (.tuple #[.agg #[.int .i64 (plP (r, k) t).1, .int .i64 (plP (r, k) t).2], .bool (ptB (r, k) t)]) ∧ Below w.heap.size w w' := by
  have hX : plP (r, k) t = ((ptG (r, k) t).x, (ptG (r, k) t).y) := rfl
  have ho := Lib.hid (fun wx (h : Below w.heap.size w wx) => of_calls p cap t r k wx (hE.below h))
  generalize plP (r, k) t = X at hX ⊢
  generalize ptB (r, k) t = B at ho ⊢
  generalize ptG (r, k) t = G at hX ho
  subst hX
  go_enter Try.func63, Try.ntmps63
  go_upto_region 1 with fail
  refine wp_world' (fun wx => Blk wx w.heap.size #[.int .i64 r, .int .i64 k] 55 ∧ Blk wx (w.heap.size + 1) #[.int .i64 0, .int .i64 0] 26 ∧ Below w.heap.size w wx)
    ⟨(Blk.new _ _ _).alloc _, Blk.new' _ _ _ _, (new_below _ _).alloc (by simp) _⟩ ?_
  rintro w1 ⟨hS, hP, hb⟩
  have k0 := hS.cell (i := 0) rfl
  have k1 := hS.cell (i := 1) rfl
  have hls := Lib.hid (run_load_row' (P := Try.prog) w1 w.heap.size 55 #[.int .i64 r, .int .i64 k] 55 _ hS Try.underlying55 rfl (by kernel_rfl))
  replace hP := Lib.hid hP
  clear hS
  go_wp2_with (refine wpList_load_v rfl 55 _ rfl ⟨w.heap.size, 0, none⟩ rfl _ hls.out ?_)
  refine (ho.out _ hb).mono ?_
  rintro e w2 ⟨rfl, hb2⟩
  replace hP := hP.out.mod ((Mod.refl (fun _ => False) _).after hb2) (fun h => h)
  replace hb := hb.trans (hb2.mono hb.size)
  have hPl := hP.lt
  have hG := Lib.hid (load_part (P := Try.prog) _ w2.heap.size G.row 106 (Blk.new w2 G.row 106) 0 2 (by simp [Pt.row]) 26 _ Try.underlying26 rfl (by kernel_rfl))
  have hGe : G.row.extract 0 (0 + 2) = #[.int .i64 G.x, .int .i64 G.y] := rfl
  rw [hGe] at hG
  have hPA := Lib.hid (hP.alloc (.cells G.row 106))
  have hbA := Lib.hid (hb.alloc hb.size (.cells G.row 106))
  clear hb2 ho hls k0 k1 hP hb hGe
  go_wp2_with (first | (refine wpList_store_new rfl 106 _ _ rfl rfl rfl _ G.row _ rfl rfl (pt_one _) (pt_size _) ?_) | (refine wpList_load_v rfl 26 _ rfl ⟨w2.heap.size, 0, none⟩ rfl _ hG.out ?_) |
    (refine wpList_store_row2 rfl 26 _ _ rfl rfl (w.heap.size + 1) rfl #[.int .i64 0, .int .i64 0] #[.int .i64 G.x, .int .i64 G.y] 26 hPA.out rfl rfl (by simp [Value.oneCell']) (by kernel_rfl) ?_; intro wz hBz hmz))
  exact bodyPost_ret (results_cell_tmp rfl _ _ (w.heap.size + 1) _ _ _ _ rfl hBz Try.underlying26 rfl (by kernel_rfl)) rfl ⟨rfl, hbA.out.trans (hmz.below hbA.out.size (fun x hx => by omega))⟩

/-- the places of stops, and home -/
def plcL (x y : Int) (l : List (Int × Int)) (t : List Rq) : List (Int × Int) := (x, y) :: l.map fun s => plP s t
theorem own_one (w : World) (base : Nat) (h : base ≤ w.heap.size) (s : Int × Int) : (w.alloc (.cells (stV s).toArray 26)).ownsRow base 26 2 (.slice (some ⟨w.heap.size, 0, none⟩) 1 1) 1 (stV s) :=
  ⟨rfl, .inr ⟨w.heap.size, 1, (stV s).toArray, rfl, h, World.alloc_heap_new w _, Nat.le_refl _, by unfold maxLen; omega, rfl, rfl⟩⟩

set_option maxHeartbeats 2000000 in
set_option maxRecDepth 100000 in
theorem places_calls (x y cp st en : Int) (p p' : Option Addr) (c c' : Nat) (l : List (Int × Int)) (t : List Rq) (w : World) (hL : Els w p 2 (l.map stV)) (hl : l.length ≤ 1000) (hT : Els w p' 10 (t.map rqV)) :
    Calls Try.prog 34 #[.agg #[.int .i64 x, .int .i64 y, .int .i64 cp, .int .i64 st, .int .i64 en], .slice p l.length c, .slice p' t.length c'] w fun e w' =>
      (∃ q d, e = .returned (.slice q (plcL x y l t).length d) ∧ Els w' q 2 ((plcL x y l t).map stV)) ∧ Below w.heap.size w w' := by
  have ho := Lib.hid (fun r k wx (h : Below w.heap.size w wx) => splace_calls p' c' t r k wx (hT.below h))
  replace hL := Lib.hid hL
  have hv1 := (Blk.new w #[.int .i64 x, .int .i64 y, .int .i64 cp, .int .i64 st, .int .i64 en] 28)
  have hlv := Lib.hid (load_part (P := Try.prog) _ w.heap.size _ 28 hv1 0 2 (by simp) 26 _ Try.underlying26 rfl (by kernel_rfl))
  have he : (#[.int .i64 x, .int .i64 y, .int .i64 cp, .int .i64 st, .int .i64 en] : Array Value).extract 0 (0 + 2) = #[.int .i64 x, .int .i64 y] := rfl
  rw [he] at hlv
  have hb0 := new_below w (.cells #[.int .i64 x, .int .i64 y, .int .i64 cp, .int .i64 st, .int .i64 en] 28)
  generalize hV : (#[.int .i64 x, .int .i64 y, .int .i64 cp, .int .i64 st, .int .i64 en] : Array Value) = V at *
  have hbA := Lib.hid (hb0.alloc (by simp) (.cells (stV (x, y)).toArray 26))
  have hOA := Lib.hid (own_one (w.alloc (.cells V 28)) (w.heap.size + 1) (by simp) (x, y))
  clear hv1 he hb0 hT hV
  go_enter Try.func34, Try.ntmps34
  go_upto_region 2 with (first | (refine wpList_load_v rfl 26 _ rfl ⟨w.heap.size, 0, none⟩ rfl _ hlv.out ?_) | (refine wpList_bs1 rfl 80 1 0 _ rfl (.agg #[.int .i64 x, .int .i64 y]) rfl _ _ (rsl_pl x y _) ?_))
  refine wp_world' (fun wx => wx.ownsRow (w.heap.size + 1) 26 2 (.slice (some ⟨w.heap.size + 1, 0, none⟩) 1 1) 1 (stV (x, y)) ∧ Below w.heap.size w wx) ⟨by have := hOA.out; simpa using this, hbA.out⟩ ?_
  rintro w1 ⟨hO, hb⟩
  clear hOA hbA hlv
  go_wp2_with fail
  go_loopw [7, 17] (fun o i wr => ∃ k : Nat, k ≤ l.length ∧ i = .int .i64 k ∧ wr.ownsRow (w.heap.size + 1) 26 2 o (k + 1) ((plcL x y (l.take k) t).map stV).flatten ∧ Below w.heap.size w wr) (fun _ i _ => l.length - (intOf i).toNat)
  case atStart => exact ⟨0, Nat.zero_le _, rfl, by simpa [plcL] using hO, hb⟩
  case round =>
    obtain ⟨k, hk, rfl, hown, hbr⟩ := hrel
    by_cases hlt : k < l.length
    · have hltI : (k : Int) < (l.length : Int) := by omega
      have s1 : IntKind.i64.wrap ((k : Int) + 1) = (k : Int) + 1 := IntWalk.i64_in _ (by omega)
      obtain ⟨a, rfl⟩ := (hL.out.below hbr).some_of (k := k) (by simpa using hlt)
      have hla := (hL.out.below hbr).load (P := Try.prog) (a := a) rfl (k := k) (by simpa using hlt) (ty := 55) Try.underlying55 rfl (by kernel_rfl)
      rw [List.getElem_map] at hla
      have hps : plcL x y (l.take (k + 1)) t = plcL x y (l.take k) t ++ [plP l[k] t] := by
        unfold plcL
        rw [List.take_succ_eq_append_getElem hlt, List.map_append]
        simp
      obtain ⟨r, q, hs⟩ : ∃ r q, l[k] = (r, q) := ⟨_, _, rfl⟩
      rw [hs] at hla hps
      replace hla : Hid ((loadVar 55 (a.add (k * 2))).run Try.prog wr = .ok (.agg #[.int .i64 r, .int .i64 q]) wr) := Lib.hid hla
      have hown1 := own_mod hown ((Mod.refl (fun _ => False) wr).alloc (.cells #[.int .i64 r, .int .i64 q] 55)) (fun _ _ h => h)
      have hb1 := hbr.alloc hbr.size (.cells #[.int .i64 r, .int .i64 q] 55)
      have hoc := Lib.hid (ho.out r q _ hb1)
      generalize plP (r, q) t = X at hps hoc
      generalize ptB (r, q) t = B at hoc
      replace hps := Lib.hid hps
      replace hown1 := Lib.hid hown1
      replace hb1 := Lib.hid hb1
      clear hs hown hbr hO
      go_upto_region 5 with (first | (refine wpList_load_v rfl 55 _ rfl (a.add (k * 2)) rfl _ hla.out ?_))
      go_wp2_with fail
      refine hoc.out.mono ?_
      rintro e w2 ⟨rfl, hb2⟩
      have hown2 := own_mod hown1.out ((Mod.refl (fun _ => False) _).after hb2) (fun _ _ h => h)
      replace hb2 := hb1.out.trans (hb2.mono hb1.out.size)
      have hown3 := own_mod hown2 ((Mod.refl (fun _ => False) w2).alloc (.cells #[.int .i64 X.1, .int .i64 X.2] 26)) (fun _ _ h => h)
      have hb3 := hb2.alloc hb2.size (.cells #[.int .i64 X.1, .int .i64 X.2] 26)
      have hownA := Lib.hid (own_mod hown3 ((Mod.refl (fun _ => False) _).alloc (.cells (stV X).toArray 26)) (fun _ _ h => h))
      have hbA := Lib.hid (hb3.alloc hb3.size (.cells (stV X).toArray 26))
      have hls := hb2.size
      have hsA := Lib.hid (show w.heap.size + 1 ≤ ((w2.alloc (.cells #[.int .i64 X.1, .int .i64 X.2] 26)).alloc (.cells (stV X).toArray 26)).heap.size by simp; omega)
      clear hown3 hown2 hown1 hb1 hb2 hb3 hla hoc
      go_upto_region 7 with (first | (refine wpList_bs1 rfl 80 1 0 _ rfl (.agg #[.int .i64 X.1, .int .i64 X.2]) rfl _ _ (rsl_pl X.1 X.2 _) ?_) |
            (refine wpList_appG pl_el rfl _ _ rfl (w.heap.size + 1) hsA.out _ _ _ rfl hownA.out (by omega) _ 1 1 (stV X) rfl rfl (by omega) (row_cells (Blk.new _ _ _)) (st_one _) ?_; intro v' w13 hown' hg'))
      have HO := Lib.hid hown'
      have HB := Lib.hid (grown_low hbA.out (Nat.le_succ _) (Nat.le_refl _) hownA.out hg')
      clear hown' hg' hownA hsA hbA hls
      go_wp2_with fail
      go_roundw
      case rel =>
        refine ⟨k + 1, by omega, by simp, ?_, HB.out⟩
        rw [hps.out, List.map_append, List.flatten_append]
        simpa using HO.out
      case measure => simp [intOf]; omega
    · obtain rfl : k = l.length := by omega
      rw [List.take_length] at hown
      obtain ⟨q, m, d, rfl⟩ := own_isS hown
      have hpl : (plcL x y l t).length = l.length + 1 := by simp [plcL]
      have hEl := own_els (stV_len (plcL x y l t)) (by rw [List.length_map, hpl]; exact hown) (by simp [hpl]; omega)
      simp only [List.length_map] at hEl
      obtain ⟨h1, rfl, h3, h4⟩ := hEl
      replace h1 := Lib.hid h1
      replace hbr := Lib.hid hbr
      clear hown h4 hO
      go_wp2
      go_ret
      exact ⟨⟨q, d, rfl, h1.out⟩, hbr.out⟩
end Go.Proofs.Ytcdpiemkbefcoaa
namespace Go.Proofs.Ytcdpiemkbefcoaa
open Go.RowKit

/-- the way on, from a place, by others, to home -/
def wayR (hx hy : Int) : Int → Int → List (Int × Int) → Int → Int
  | ax, ay, [], n => wrap64 (n + dsP ax ay hx hy)
  | ax, ay, p :: r, n => wayR hx hy p.1 p.2 r (wrap64 (n + dsP ax ay p.1 p.2))
def wayL : List (Int × Int) → Int
  | [] => 0
  | h :: r => wayR h.1 h.2 h.1 h.2 r 0
def zP : Int × Int := (0, 0)
/-- what is still to come, at place k -/
def wayK (L : List (Int × Int)) (k : Nat) (n : Int) : Int :=
  if k < L.length then wayR (L.getD 0 zP).1 (L.getD 0 zP).2 (L.getD k zP).1 (L.getD k zP).2 (L.drop (k + 1)) n else n
theorem wayK_zero {L : List (Int × Int)} (h : 0 < L.length) : wayK L 0 0 = wayL L := by
  cases L with
  | nil => cases h
  | cons p r => simp [wayK, wayL]
theorem wayK_step {L : List (Int × Int)} {k m : Nat} (h : k < L.length) (hm : m = (k + 1) % L.length) (n : Int) :
    wayK L k n = wayK L (k + 1) (wrap64 (n + dsP (L.getD k zP).1 (L.getD k zP).2 (L.getD m zP).1 (L.getD m zP).2)) := by
  unfold wayK
  rw [if_pos h]
  by_cases h1 : k + 1 < L.length
  · rw [if_pos h1, hm, Nat.mod_eq_of_lt h1, List.drop_eq_getElem_cons h1]
    simp [wayR, h1]
  · have h2 : k + 1 = L.length := by omega
    rw [if_neg h1, hm, h2, Nat.mod_self, List.drop_length]
    simp [wayR]
theorem run_rem64 {ρ : Operand → Value} {o : Oper} {w : World} {x y : Operand} {n m : Int} {r : Nat} (ho : o.op = .binOp .rem 3 x y 3) (hx : ρ x = .int .i64 n) (hy : ρ y = .int .i64 m) (hn : 0 ≤ n) (hm : 0 < m) (hr : (r : Int) = n % m) (hb : m ≤ 9223372036854775807) :
    (execOp ρ o).run Try.prog w = .ok (.value (.int .i64 r)) w := by
  have h0 : ¬ m = 0 := by omega
  have h1 : n.tmod m = n % m := Int.tmod_eq_emod_of_nonneg hn
  have h2 : 0 ≤ n % m := Int.emod_nonneg _ h0
  have h3 : n % m < m := Int.emod_lt_of_pos _ hm
  have h4 : IntKind.i64.wrap (n % m) = n % m := IntWalk.i64_in _ (by omega)
  unfold execOp
  simp only [ho, hx, hy]
  go_simp
theorem run_ixP {ρ : Operand → Value} {o : Oper} {w : World} {x y : Operand} {a : Addr} {n c k : Nat} (ho : o.op = .indexAddr 80 x y) (hx : ρ x = .slice (some a) n c) (hy : ρ y = .int .i64 k) (hk : k < n) : (execOp ρ o).run Try.prog w = .ok (.value (.pointer (some (a.add (k * 2))))) w := by
  have h0 : (0 : Int) ≤ (k : Int) := by omega
  have h1 : (k : Int) < (n : Int) := by omega
  have h2 : ((k : Int)).toNat = k := by omega
  unfold execOp
  simp only [ho, hx, hy]
  go_simp

set_option maxHeartbeats 2000000 in
set_option maxRecDepth 100000 in
theorem way_calls (p : Option Addr) (c : Nat) (L : List (Int × Int)) (w : World) (hE : Els w p 2 (L.map stV)) (h0 : 0 < L.length) :
    Calls Try.prog 33 #[.slice p L.length c] w fun e w' => e = .returned (.int .i64 (wayL L)) ∧ Below w.heap.size w w' := by
  have hbig : L.length ≤ 140737488351232 := by simpa using hE.big
  have hX := wayK_zero h0
  generalize wayL L = X at hX ⊢
  replace hX := Lib.hid hX
  obtain ⟨a, rfl⟩ := hE.some_of (k := 0) (by simpa using h0)
  replace hE := Lib.hid hE
  go_enter Try.func33, Try.ntmps33
  go_wp2_with fail
  go_loopw [2, 7] (fun o i wr => ∃ (k : Nat) (n : Int), k ≤ L.length ∧ i = .int .i64 k ∧ o = .int .i64 n ∧ Hid (wayK L k n = X) ∧ Below w.heap.size w wr) (fun _ i _ => L.length - (intOf i).toNat)
  case atStart => exact ⟨0, 0, Nat.zero_le _, rfl, rfl, hX, Below.refl _ _⟩
  case round =>
    obtain ⟨k, n, hk, rfl, rfl, hK, hbr⟩ := hrel
    by_cases hlt : k < L.length
    · have hltI : (k : Int) < (L.length : Int) := by omega
      have s1 : IntKind.i64.wrap ((k : Int) + 1) = (k : Int) + 1 := IntWalk.i64_in _ (by omega)
      obtain ⟨m, hm⟩ : ∃ m, m = (k + 1) % L.length := ⟨_, rfl⟩
      have hml : m < L.length := by rw [hm]; exact Nat.mod_lt _ h0
      have hmi : (m : Int) = ((k : Int) + 1) % (L.length : Int) := by rw [hm]; simp
      have hld := Lib.hid (fun (j : Nat) (hj : j < L.length) (wx : World) (hb : Below w.heap.size w wx) => (by
        have h := (hE.out.below hb).load (P := Try.prog) (a := a) rfl (k := j) (by simpa using hj) (ty := 26) Try.underlying26 rfl (by kernel_rfl)
        rw [List.getElem_map] at h
        have e : L[j] = L.getD j zP := by simp [hj]
        rw [e] at h
        exact h : (loadVar 26 (a.add (j * 2))).run Try.prog wx = .ok (.agg #[.int .i64 (L.getD j zP).1, .int .i64 (L.getD j zP).2]) wx))
      have hk1 := hK.out
      rw [wayK_step hlt hm] at hk1
      have hl1 := Lib.hid (hld.out k hlt wr hbr)
      have hl2 := Lib.hid (fun wx (hb : Below w.heap.size w wx) => hld.out m hml wx hb)
      generalize L.getD k zP = u at hk1 hl1
      generalize L.getD m zP = v at hk1 hl2
      have hdc := Lib.hid (fun wx => dist_calls u.1 u.2 v.1 v.2 wx)
      generalize dsP u.1 u.2 v.1 v.2 = d at hk1 hdc
      replace hk1 := Lib.hid hk1
      have hB := Lib.hid (Blk.new wr #[.int .i64 u.1, .int .i64 u.2] 26)
      have hb1 := Lib.hid (hbr.alloc hbr.size (.cells #[.int .i64 u.1, .int .i64 u.2] 26))
      replace hmi := Lib.hid hmi
      replace hm := Lib.hid hm
      clear hK hld
      go_upto_region 4 with (first | (refine wpList_load_v rfl 26 _ rfl (a.add (k * 2)) rfl _ hl1.out ?_))
      obtain ⟨W1, hW1⟩ : ∃ W1, wr.alloc (.cells #[.int .i64 u.1, .int .i64 u.2] 26) = W1 := ⟨_, rfl⟩
      rw [hW1] at hB hb1 ⊢
      have hlA : Hid (∀ z : Later (fun _ => False) W1, (loadVar 26 ⟨wr.heap.size, 0, none⟩).run Try.prog z.val = .ok (.agg #[.int .i64 u.1, .int .i64 u.2]) z.val) := Lib.hid (fun z => run_load_row' (P := Try.prog) z.val wr.heap.size 26 _ 26 _ (hB.out.mod z.mod (fun h => h)) Try.underlying26 rfl (by kernel_rfl))
      have hlB : Hid (∀ z : Later (fun _ => False) W1, (loadVar 26 (a.add (m * 2))).run Try.prog z.val = .ok (.agg #[.int .i64 v.1, .int .i64 v.2]) z.val) := Lib.hid (fun z => hl2.out _ (hb1.out.trans (z.mod.below hb1.out.size (fun _ h => h.elim))))
      clear hW1 hB hl1 hl2 hbr
      refine wp_region_later (w0 := W1) (S := fun _ => False) (Mod.refl _ _) (by kernel_rfl) (by kernel_rfl) ?_
      go_big_quiet_step (fail)
      refine wpQuiet_v rfl (.agg #[.int .i64 u.1, .int .i64 u.2]) (by rintro _ ⟨z, rfl⟩; exact run_load_v rfl rfl (hlA.out z)) ?_
      simp only [Act.put, List.setIfInBounds_toArray, List.set_cons_succ, List.set_cons_zero]
      go_big_quiet_step (fail)
      go_big_quiet_step (fail)
      go_big_quiet_step (fail)
      go_big_quiet_step (fail)
      go_big_quiet_step (fail)
      refine wpQuiet_v rfl (.int .i64 m) (by rintro _ ⟨z, rfl⟩; exact run_rem64 rfl rfl rfl (by omega) (by omega) hmi.out (by omega)) ?_
      simp only [Act.put, List.setIfInBounds_toArray, List.set_cons_succ, List.set_cons_zero]
      refine wpQuiet_v rfl (.pointer (some (a.add (m * 2)))) (by rintro _ ⟨z, rfl⟩; exact run_ixP rfl rfl rfl hml) ?_
      simp only [Act.put, List.setIfInBounds_toArray, List.set_cons_succ, List.set_cons_zero]
      refine wpQuiet_v rfl (.agg #[.int .i64 v.1, .int .i64 v.2]) (by rintro _ ⟨z, rfl⟩; exact run_load_v rfl rfl (hlB.out z)) ?_
      simp only [Act.put, List.setIfInBounds_toArray, List.set_cons_succ, List.set_cons_zero]
      go_big_quiet_step (((go_at_call 44; with_reducible exact Calls.later (hdc.out _))))
      go_big_quiet_step (fail)
      go_big_quiet_step (fail)
      refine wpQuiet_nil ?_
      rintro _ ⟨z, rfl⟩
      have hb2 := Lib.hid (hb1.out.trans (z.mod.below hb1.out.size (fun _ h => h.elim)))
      clear hlA hlB hb1 hdc hmi hm
      generalize z.val = w2 at *
      clear z
      go_wp2_with fail
      go_roundw
      case rel => exact ⟨k + 1, _, by omega, by simp, rfl, hk1, hb2.out⟩
      case measure => simp [intOf]; omega
    · obtain rfl : k = L.length := by omega
      obtain rfl : n = X := by
        have := hK.out
        unfold wayK at this
        rw [if_neg (by omega)] at this
        exact this
      clear hK
      go_wp2
      go_ret
      exact ⟨rfl, hbr⟩
end Go.Proofs.Ytcdpiemkbefcoaa
namespace Go.Proofs.Ytcdpiemkbefcoaa
open Go.RowKit

theorem run_callPs {ρ : Operand → Value} {o : Oper} {w : World} {x y z : Operand} {u v s : Value} (ho : o.op = .call { callee := .value (.func 34), args := #[x, y, z], argTypes := #[28, 29, 30] }) (hx : ρ x = u) (hy : ρ y = v) (hz : ρ z = s)
    (hf : ρ (.func 34) = .func (.func 34) #[] #[] := by rfl) : (execOp ρ o).run Try.prog w = .ok (.enter 34 #[u, v, s]) w := by
  unfold execOp
  simp only [ho]
  go_simp
theorem run_callWy {ρ : Operand → Value} {o : Oper} {w : World} {x : Operand} {u : Value} (ho : o.op = .call { callee := .value (.func 33), args := #[x], argTypes := #[80] }) (hx : ρ x = u)
    (hf : ρ (.func 33) = .func (.func 33) #[] #[] := by rfl) : (execOp ρ o).run Try.prog w = .ok (.enter 33 #[u]) w := by
  unfold execOp
  simp only [ho]
  go_simp
theorem run_sub64 {ρ : Operand → Value} {o : Oper} {w : World} {x y : Operand} {m n : Int} (ho : o.op = .binOp .sub 3 x y 3) (hx : ρ x = .int .i64 m) (hy : ρ y = .int .i64 n) : (execOp ρ o).run Try.prog w = .ok (.value (.int .i64 (wrap64 (m - n)))) w := by
  unfold execOp
  simp only [ho, hx, hy]
  go_simp
  rw [IntWalk.i64_left]
/-- a row of pairs that lies there -/
def RowAt (W : World) (v : Value) (L : List (Int × Int)) : Prop := ∃ q d, v = .slice q L.length d ∧ Els W q 2 (L.map stV)
theorem RowAt.mod {A B : World} {v : Value} {L : List (Int × Int)} (h : RowAt A v L) (hm : Mod (fun _ => False) A B) : RowAt B v L := by
  obtain ⟨q, d, h1, h2⟩ := h
  exact ⟨q, d, h1, h2.below (hm.below (Nat.le_refl _) (fun _ h => h.elim))⟩
theorem putP_zero {x y cp st en req i j : Int} {l : List (Int × Int)} {t : List Rq} (h : (putP x y cp st en l t req i j).2.2 = 0) :
    l.length ≤ 14 ∧ (putP x y cp st en l t req i j).1.length = l.length + 2 ∧ withP l req i j = some (putP x y cp st en l t req i j).1 ∧ (tmP x y cp st en l t).2.2 = 0 ∧ (putP x y cp st en l t req i j).2.1 = (tmP x y cp st en l t).2.1 ∧ (0 ≤ req ∧ req < t.length ∧ ∀ s ∈ l, s.1 ≠ req) := by
  unfold putP at h ⊢
  by_cases h1 : req < 0 ∨ (t.length : Int) ≤ req ∨ l.any (fun s => s.1 == req) = true
  · rw [if_pos h1] at h; cases h
  rw [if_neg h1] at h ⊢
  by_cases h2 : (tmP x y cp st en l t).2.2 ≠ 0
  · rw [if_pos h2] at h; exact absurd h h2
  rw [if_neg h2] at h ⊢
  by_cases h3 : 16 < l.length + 2
  · rw [if_pos h3] at h; cases h
  rw [if_neg h3] at h ⊢
  cases hw : withP l req i j with
  | none => rw [hw] at h; cases h
  | some m =>
    refine ⟨by omega, ?_, rfl, by simpa using h2, rfl, by omega, by omega, fun s hs e => h1 (.inr (.inr (List.any_eq_true.2 ⟨s, hs, by simp [e]⟩)))⟩
    unfold withP at hw
    by_cases h4 : i < 0 ∨ j < i ∨ (l.length : Int) < j ∨ req < 0 ∨ l.any (fun s => s.1 == req) = true ∨ 16 < l.length + 2
    · rw [if_pos h4] at hw; cases hw
    · rw [if_neg h4] at hw
      cases hw
      exact withL_len l req (by omega) (by omega)
/-- by how much a route's way is longer -/
def detP (x y cp st en : Int) (l : List (Int × Int)) (t : List Rq) (req i j : Int) : Int × Int :=
  if (putP x y cp st en l t req i j).2.2 ≠ 0 then (0, (putP x y cp st en l t req i j).2.2)
  else (wrap64 (wayL (plcL x y (putP x y cp st en l t req i j).1 t) - wayL (plcL x y l t)), 0)

set_option maxHeartbeats 2000000 in
set_option maxRecDepth 100000 in
theorem detour_calls (x y cp st en req i j : Int) (p p' : Option Addr) (c c' : Nat) (l : List (Int × Int)) (t : List Rq) (w : World) (hL : Els w p 2 (l.map stV)) (hc : l.length ≤ c) (hT : Els w p' 10 (t.map rqV)) :
    Calls Try.prog 16 #[.agg #[.int .i64 x, .int .i64 y, .int .i64 cp, .int .i64 st, .int .i64 en], .slice p l.length c, .slice p' t.length c', .int .i64 req, .int .i64 i, .int .i64 j] w fun e w' =>
      e = .returned (.tuple #[.int .i64 (detP x y cp st en l t req i j).1, .int .i64 (detP x y cp st en l t req i j).2]) ∧ Below w.heap.size w w' := by
  have hX : detP x y cp st en l t req i j = if (putP x y cp st en l t req i j).2.2 ≠ 0 then (0, (putP x y cp st en l t req i j).2.2)
    else (wrap64 (wayL (plcL x y (putP x y cp st en l t req i j).1 t) - wayL (plcL x y l t)), 0) := rfl
  have hp := Lib.hid (fun wx (h : Below w.heap.size w wx) => put_calls x y cp st en req i j p p' c c' l t wx (hL.below h) hc (hT.below h))
  have hz := Lib.hid (fun h : (putP x y cp st en l t req i j).2.2 = 0 => (⟨(putP_zero h).1, (putP_zero h).2.1⟩ : l.length ≤ 14 ∧ (putP x y cp st en l t req i j).1.length = l.length + 2))
  have hpl := Lib.hid (fun q d m (hm : List.length m ≤ 1000) wx (h : Below w.heap.size w wx) hE => places_calls x y cp st en q p' d c' m t wx hE hm (hT.below h))
  have hne : ∀ m : List (Int × Int), 0 < (plcL x y m t).length := fun m => by simp [plcL]
  generalize detP x y cp st en l t req i j = X at hX ⊢
  generalize putP x y cp st en l t req i j = U at hX hp hz
  obtain ⟨m, e0, r0⟩ := U
  simp only at hX
  replace hpl := Lib.hid (fun q d k hk wx h hE => hpl.out q d k hk wx h hE)
  generalize hP : (fun m : List (Int × Int) => plcL x y m t) = PL at *
  replace hP : ∀ m, plcL x y m t = PL m := fun m => by rw [← hP]
  simp only [hP] at hpl hX hne
  replace hX := Lib.hid hX
  obtain ⟨V, hV⟩ : ∃ V : Array Value, #[.int .i64 x, .int .i64 y, .int .i64 cp, .int .i64 st, .int .i64 en] = V := ⟨_, rfl⟩
  have hsV : V.size = 5 := by rw [← hV]; rfl
  have hlv := Lib.hid (fun wx (h : Blk wx w.heap.size V 28) => run_load_row' (P := Try.prog) wx w.heap.size 28 V 28 _ h Try.underlying28 rfl (by rw [hsV]; kernel_rfl))
  rw [hV] at hp hpl ⊢
  replace hL := Lib.hid hL
  clear hV hsV hT hP
  go_enter Try.func16, Try.ntmps16
  go_upto_region 1 with fail
  refine wp_world' (fun wx => Blk wx w.heap.size V 28 ∧ Below w.heap.size w wx) ⟨Blk.new _ _ _, new_below _ _⟩ ?_
  rintro w1 ⟨hB, hb⟩
  have hl1 := Lib.hid (hlv.out _ hB)
  replace hB := Lib.hid hB
  go_wp2_with (refine wpList_load_v rfl 28 _ rfl ⟨w.heap.size, 0, none⟩ rfl _ hl1.out ?_)
  refine (hp.out _ hb).mono ?_
  rintro e w2 ⟨⟨q, d, rfl, hd, hE⟩, hb2⟩
  have hM : Mod (fun _ => False) w1 w2 := (Mod.refl _ _).after hb2
  replace hB := Lib.hid (hB.out.mod hM (fun h => h))
  replace hb := hb.trans (hb2.mono hb.size)
  replace hE : Els w2 q 2 (m.map stV) := hE
  clear hM hb2 hl1 hp
  by_cases z0 : r0 = 0
  · subst z0
    obtain ⟨y1, y2⟩ := hz.out rfl
    replace y2 : Hid (m.length = l.length + 2) := Lib.hid y2
    replace hE := Lib.hid hE
    replace hX : Hid (X = (wrap64 (wayL (PL m) - wayL (PL l)), 0)) := Lib.hid (by rw [hX.out, if_neg (by simp)])
    clear hz
    go_upto_region 4 with fail
    refine wp_region_tell (X := Value × Value) (undef, undef) [3, 4, 8, 9] (fun x => [(31, .agg V), (32, .slice q m.length d), (33, .slice p' t.length c'), (35, .int .i64 (wayL (PL m))), (36, .agg V), (37, .slice p l.length c), (38, .slice p' t.length c'), (40, .int .i64 (wayL (PL l))),
        (41, .int .i64 (wrap64 (wayL (PL m) - wayL (PL l)))), (12, .int .i64 (wrap64 (wayL (PL m) - wayL (PL l)))), (13, .int .i64 0)] ++ ([(34, x.1)] ++ [(39, x.2)]))
      (fun x k W' => Mod (fun _ => False) w2 W' ∧ (1 ≤ k → RowAt W' x.1 (PL m)) ∧ (3 ≤ k → RowAt W' x.2 (PL l)))
      (by kernel_rfl) (by kernel_rfl) (by kernel_rfl) (by kernel_rfl) (by kernel_rfl) (fun x => by kernel_rfl) ⟨(Mod.refl _ _).drew, fun h => by omega, fun h => by omega⟩ ?_ ?_
    · intro aF hAF
      have E6 : ∀ x, (aF x).eval (.tmp 6) = .pointer (some ⟨w.heap.size, 0, none⟩) := by intro x; rw [hAF]; kernel_rfl
      have E14 : ∀ x, (aF x).eval (.tmp 14) = .slice q m.length d := by intro x; rw [hAF]; kernel_rfl
      have E2 : ∀ x, (aF x).eval (.tmp 2) = .slice p' t.length c' := by intro x; rw [hAF]; kernel_rfl
      have E1 : ∀ x, (aF x).eval (.tmp 1) = .slice p l.length c := by intro x; rw [hAF]; kernel_rfl
      have T31 : ∀ x, (aF x).tmps[31]? = some (.agg V) := by intro x; rw [hAF]; kernel_rfl
      have E31 : ∀ x, (aF x).eval (.tmp 31) = .agg V := by intro x; rw [hAF]; kernel_rfl
      have T32 : ∀ x, (aF x).tmps[32]? = some (.slice q m.length d) := by intro x; rw [hAF]; kernel_rfl
      have E32 : ∀ x, (aF x).eval (.tmp 32) = .slice q m.length d := by intro x; rw [hAF]; kernel_rfl
      have T33 : ∀ x, (aF x).tmps[33]? = some (.slice p' t.length c') := by intro x; rw [hAF]; kernel_rfl
      have E33 : ∀ x, (aF x).eval (.tmp 33) = .slice p' t.length c' := by intro x; rw [hAF]; kernel_rfl
      have T34 : ∀ x, (aF x).tmps[34]? = some (x.1) := by intro x; rw [hAF]; kernel_rfl
      have E34 : ∀ x, (aF x).eval (.tmp 34) = x.1 := by intro x; rw [hAF]; kernel_rfl
      have T35 : ∀ x, (aF x).tmps[35]? = some (.int .i64 (wayL (PL m))) := by intro x; rw [hAF]; kernel_rfl
      have E35 : ∀ x, (aF x).eval (.tmp 35) = .int .i64 (wayL (PL m)) := by intro x; rw [hAF]; kernel_rfl
      have T36 : ∀ x, (aF x).tmps[36]? = some (.agg V) := by intro x; rw [hAF]; kernel_rfl
      have E36 : ∀ x, (aF x).eval (.tmp 36) = .agg V := by intro x; rw [hAF]; kernel_rfl
      have T37 : ∀ x, (aF x).tmps[37]? = some (.slice p l.length c) := by intro x; rw [hAF]; kernel_rfl
      have E37 : ∀ x, (aF x).eval (.tmp 37) = .slice p l.length c := by intro x; rw [hAF]; kernel_rfl
      have T38 : ∀ x, (aF x).tmps[38]? = some (.slice p' t.length c') := by intro x; rw [hAF]; kernel_rfl
      have E38 : ∀ x, (aF x).eval (.tmp 38) = .slice p' t.length c' := by intro x; rw [hAF]; kernel_rfl
      have T39 : ∀ x, (aF x).tmps[39]? = some (x.2) := by intro x; rw [hAF]; kernel_rfl
      have E39 : ∀ x, (aF x).eval (.tmp 39) = x.2 := by intro x; rw [hAF]; kernel_rfl
      have T40 : ∀ x, (aF x).tmps[40]? = some (.int .i64 (wayL (PL l))) := by intro x; rw [hAF]; kernel_rfl
      have E40 : ∀ x, (aF x).eval (.tmp 40) = .int .i64 (wayL (PL l)) := by intro x; rw [hAF]; kernel_rfl
      have T41 : ∀ x, (aF x).tmps[41]? = some (.int .i64 (wrap64 (wayL (PL m) - wayL (PL l)))) := by intro x; rw [hAF]; kernel_rfl
      have E41 : ∀ x, (aF x).eval (.tmp 41) = .int .i64 (wrap64 (wayL (PL m) - wayL (PL l))) := by intro x; rw [hAF]; kernel_rfl
      have T12 : ∀ x, (aF x).tmps[12]? = some (.int .i64 (wrap64 (wayL (PL m) - wayL (PL l)))) := by intro x; rw [hAF]; kernel_rfl
      have T13 : ∀ x, (aF x).tmps[13]? = some (.int .i64 0) := by intro x; rw [hAF]; kernel_rfl
      replace hAF := Lib.hid hAF
      refine ⟨?_, ?_, ?_, ?_, ?_, ?_, ?_, ?_, ?_, ?_, ?_, ?_, ?_, trivial⟩
      · exact opOk2_quiet _ (by intro x d hd _; cases hd; exact T31 x) (fun _ => rfl) (by decide) fun x k W' hc => sv (run_load1 rfl (E6 x) (hlv.out _ (hB.out.mod hc.1 (fun h => h)))) hc
      · exact opOk2_quiet _ (by intro x d hd _; cases hd; exact T32 x) (fun _ => rfl) (by decide) fun x k W' hc => sv (run_mov rfl (E14 x)) hc
      · exact opOk2_quiet _ (by intro x d hd _; cases hd; exact T33 x) (fun _ => rfl) (by decide) fun x k W' hc => sv (run_mov rfl (E2 x)) hc
      · exact opOk2_chain 0 rfl rfl (by decide) fun x W' hc => by
          refine sk (run_callPs rfl (E31 x) (E32 x) (E33 x)) ((hpl.out q d m (by rw [y2.out]; omega) W' (hb.trans (hc.1.below hb.size (fun _ h => h.elim))) (hE.out.below (hc.1.below (Nat.le_refl _) (fun _ h => h.elim)))).mono ?_)
          rintro e w'' ⟨⟨q2, d2, rfl, hE2⟩, hb'⟩
          have hm' := (Mod.refl (fun _ => False) W').after hb'
          exact ⟨_, rfl, (.slice q2 (PL m).length d2, x.2), (by rw [hAF.out]; exact agree_any (by kernel_rfl) (by kernel_rfl)), (by intro d hd _; cases hd; exact T34 _), hc.1.trans hm', fun _ => ⟨q2, d2, rfl, hE2⟩, fun h => by omega⟩
      · exact opOk2_chain 1 rfl rfl (by decide) fun x W' hc => by
          obtain ⟨q2, d2, hx2, hE2⟩ := hc.2.1 (by omega)
          refine sk (run_callWy rfl ((E34 x).trans hx2)) ((way_calls q2 d2 (PL m) W' hE2 (hne m)).mono ?_)
          rintro e w'' ⟨rfl, hb'⟩
          have hm' := (Mod.refl (fun _ => False) W').after hb'
          exact ⟨_, rfl, x, agree_same _ _, (by intro d hd _; cases hd; exact T35 _), hc.1.trans hm', fun _ => (hc.2.1 (by omega)).mod hm', fun h => by omega⟩
      · exact opOk2_quiet _ (by intro x d hd _; cases hd; exact T36 x) (fun _ => rfl) (by decide) fun x k W' hc => sv (run_load1 rfl (E6 x) (hlv.out _ (hB.out.mod hc.1 (fun h => h)))) hc
      · exact opOk2_quiet _ (by intro x d hd _; cases hd; exact T37 x) (fun _ => rfl) (by decide) fun x k W' hc => sv (run_mov rfl (E1 x)) hc
      · exact opOk2_quiet _ (by intro x d hd _; cases hd; exact T38 x) (fun _ => rfl) (by decide) fun x k W' hc => sv (run_mov rfl (E2 x)) hc
      · exact opOk2_chain 2 rfl rfl (by decide) fun x W' hc => by
          refine sk (run_callPs rfl (E36 x) (E37 x) (E38 x)) ((hpl.out p c l (by omega) W' (hb.trans (hc.1.below hb.size (fun _ h => h.elim))) (hL.out.below (hb.trans (hc.1.below hb.size (fun _ h => h.elim))))).mono ?_)
          rintro e w'' ⟨⟨q2, d2, rfl, hE2⟩, hb'⟩
          have hm' := (Mod.refl (fun _ => False) W').after hb'
          exact ⟨_, rfl, (x.1, .slice q2 (PL l).length d2), (by rw [hAF.out]; exact agree_any2 (by kernel_rfl) (by kernel_rfl)), (by intro d hd _; cases hd; exact T39 _), hc.1.trans hm', fun _ => (hc.2.1 (by omega)).mod hm', fun _ => ⟨q2, d2, rfl, hE2⟩⟩
      · exact opOk2_chain 3 rfl rfl (by decide) fun x W' hc => by
          obtain ⟨q2, d2, hx2, hE2⟩ := hc.2.2 (by omega)
          refine sk (run_callWy rfl ((E39 x).trans hx2)) ((way_calls q2 d2 (PL l) W' hE2 (hne l)).mono ?_)
          rintro e w'' ⟨rfl, hb'⟩
          have hm' := (Mod.refl (fun _ => False) W').after hb'
          exact ⟨_, rfl, x, agree_same _ _, (by intro d hd _; cases hd; exact T40 _), hc.1.trans hm', fun _ => (hc.2.1 (by omega)).mod hm', fun _ => (hc.2.2 (by omega)).mod hm'⟩
      · exact opOk2_quiet _ (by intro x d hd _; cases hd; exact T41 x) (fun _ => rfl) (by decide) fun x k W' hc => sv (run_sub64 rfl (E35 x) (E40 x)) hc
      · exact opOk2_quiet _ (by intro x d hd _; cases hd; exact T12 x) (fun _ => rfl) (by decide) fun x k W' hc => sv (run_asg rfl (E41 x)) hc
      · exact opOk2_quiet _ (by intro x d hd _; cases hd; exact T13 x) (fun _ => rfl) (by decide) fun x k W' hc => sv (run_asg rfl rfl) hc
    · intro x w3 hc
      simp only [putAll, List.foldl_cons, List.foldl_nil, List.cons_append, List.nil_append, Act.put, List.setIfInBounds_toArray, List.set_cons_succ, List.set_cons_zero]
      have hb3 := hb.trans (hc.1.below hb.size (fun _ h => h.elim))
      obtain rfl := hX.out
      clear hX hc hB hE hL hpl hlv
      go_wp2_with fail
      go_ret2
      exact ⟨rfl, hb3⟩
  · obtain rfl : X = (0, r0) := by rw [hX.out, if_pos z0]
    have g1 : (r0 == 0) = false := beq_eq_false_iff_ne.2 z0
    have g2 : (r0 != 0) = true := by rw [bne, g1]; rfl
    clear hX hE hB hlv hpl hL
    go_wp2_with fail
    go_ret2
    exact ⟨rfl, hb⟩
end Go.Proofs.Ytcdpiemkbefcoaa
