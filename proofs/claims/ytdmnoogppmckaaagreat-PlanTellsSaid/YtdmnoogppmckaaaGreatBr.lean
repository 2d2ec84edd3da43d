/-
  The document's layer 12: right, All, Best, Put, of a right route.
  The document's layer 12: All, of a right route.
  The document's layer 12: Best and Put, of a right route.
  Layer 13: the document's plan: Price, Put, Take.
-/
import Derived.Test.YtdmnoogppmckaaaGreatFm
import Derived.Test.YtdmnoogppmckaaaGreatRw
import Derived.Test.YtdmnoogppmckaaaGreatRm
namespace Go.Proofs.YtdmnoogppmckaaaGreat
open Go.RowKit

theorem wy_right {v : Ve} {l : Rou2} {t : List Rq} {req : Int} {i j : Nat} (hij : i ≤ j) (hj : j ≤ l.length) (hr : 0 ≤ req ∧ req < t.length) (hn : ∀ s ∈ l, s.1 ≠ req) (hl : l.length ≤ 14) (h : RightV v (withL l req i j) t) :
    wyOf (v 0) (v 1) (v 2) (v 3) (v 4) l t req ((i : Int), (j : Int)) = [((i : Int), (j : Int), (timV v (withL l req i j) t).2.1 - (timV v l t).2.1)] := by
  obtain ⟨_, e, _⟩ := rise_right hij hj hr hn hl h
  unfold wyOf
  dsimp only
  rw [e, if_pos rfl]
  rfl
theorem wy_wrong {v : Ve} {l : Rou2} {t : List Rq} {req : Int} {i j : Nat} (hij : i ≤ j) (hj : j ≤ l.length) (hr : 0 ≤ req ∧ req < t.length) (hn : ∀ s ∈ l, s.1 ≠ req) (hl : l.length ≤ 14) (h : ¬ RightV v (withL l req i j) t) :
    wyOf (v 0) (v 1) (v 2) (v 3) (v 4) l t req ((i : Int), (j : Int)) = [] := by
  unfold wyOf
  dsimp only
  rw [if_neg (rise_wrong hij hj hr hn hl h).2]
set_option maxHeartbeats 4000000 in
set_option maxRecDepth 100000 in
theorem rright_calls {v : Ve} {l : Rou2} {t : List Rq} {r : Nat} (hR : RightV v l t) (hr : r < t.length) (hn : ∀ s ∈ l, s.1 ≠ (r : Int)) (p p' : Option Addr) (c c' : Nat) (w : World) (hL : Els w p 2 (l.map stV)) (hc : l.length ≤ c ∧ c ≤ 9223372036854775807) (hT : Els w p' 10 (t.map rqV)) :
    Calls Tryz.prog 141 #[.agg (veR v).toArray, .slice p l.length c, .slice p' t.length c', .int .i64 (r : Int)] w fun e w' => e = .returned (.int .i64 (if 14 < l.length then 11 else 0)) ∧ Below w.heap.size w w' := by
  have hbig : t.length ≤ 140737488351232 := by simpa using hT.big
  have hl16 := hR.2.2.1
  have htb := totV_bd hR
  have hq0 : rqE t[r] = 0 := hR.2.1 _ (List.getElem_mem hr)
  have hv0 : vehV v = 0 := hR.1
  have hfr := Lib.hid (fun wx (hb : Below w.heap.size w wx) => (show Calls Tryz.prog 142 #[.agg (veR v).toArray, .slice p l.length c, .slice p' t.length c', .int .i64 (-1), .int .i64 0] wx (TmPost wx (timV v l t)) from from_calls _ _ _ _ _ p p' c c' l t wx (hL.below hb) hc (hT.below hb)))
  obtain ⟨L, en, e0, hTM⟩ : ∃ L en e0, timV v l t = (L, en, e0) := ⟨_, _, _, rfl⟩
  obtain ⟨_, _, _, p4⟩ := htb
  rw [hTM] at hfr p4
  obtain rfl : e0 = 0 := p4
  unfold TmPost at hfr
  dsimp only at hfr
  have hve := Lib.hid (fun wx => (show Calls Tryz.prog 33 #[.agg (veR v).toArray] wx fun e w' => e = .returned (.int .i64 (vehV v)) ∧ Below wx.heap.size wx w' from vehicle_ref (v 0) (v 1) (v 2) (v 3) (v 4) wx))
  rw [hv0] at hve
  have hck := Lib.hid (fun wx => (show Calls Tryz.prog 34 #[.agg (rqV t[r]).toArray] wx fun e w' => e = .returned (.int .i64 (rqE t[r])) ∧ Below wx.heap.size wx w' from chk_ref (t[r] 0) (t[r] 1) (t[r] 2) (t[r] 3) (t[r] 4) (t[r] 5) (t[r] 6) (t[r] 7) (t[r] 8) (t[r] 9) wx))
  rw [hq0] at hck
  obtain ⟨aT, rfl⟩ := hT.some_of (k := r) (by simpa using hr)
  have hlr := Lib.hid (fun wx (hb : Below w.heap.size w wx) => (show (loadVar 72 (aT.add (r * 10))).run Tryz.prog wx = .ok (.agg (rqV t[r]).toArray) wx from by
    have := (hT.below hb).load (P := Tryz.prog) (a := aT) rfl (k := r) (by simpa using hr) (ty := 72) Tryz.underlying72 rfl (by kernel_rfl)
    rw [List.getElem_map] at this
    exact this))
  generalize (rqV t[r]).toArray = Z at hck hlr
  obtain ⟨Y, hY⟩ : ∃ Y, (veR v).toArray = Y := ⟨_, rfl⟩
  have hYs : Y.size = 5 := by rw [← hY]; rfl
  rw [hY] at hfr hve ⊢
  have hlv := Lib.hid (fun wx (h : Blk wx w.heap.size Y 53) => run_load_row (P := Tryz.prog) wx w.heap.size 53 Y _ _ h Tryz.underlying53 rfl (by rw [hYs]; kernel_rfl))
  obtain ⟨ln, hln⟩ : ∃ ln, l.length = ln := ⟨_, rfl⟩
  obtain ⟨T, hTT⟩ : ∃ T, t.length = T := ⟨_, rfl⟩
  rw [hln] at hl16 hfr ⊢
  rw [hTT] at hr hbig hfr ⊢
  have hrI : (r : Int) < (T : Int) := by omega
  have hr0 : (0 : Int) ≤ (r : Int) := by omega
  have hTr : ¬ T ≤ r := by omega
  have hTr2 : ¬ (r : Int) < 0 := by omega
  replace hln := Lib.hid hln
  replace hn := Lib.hid hn
  have hL0 := Lib.hid (hL.below (new_below w (.cells Y 53)))
  obtain ⟨RC, hRC⟩ : ∃ RC : Int, (if 14 < ln then 11 else 0) = RC := ⟨_, rfl⟩
  rw [hRC]
  replace hRC := Lib.hid hRC
  clear hTM hR hY hYs hq0 hv0 hTT hL hT
  go_enter Tryz.func141, Tryz.ntmps141
  go_upto_region 1 with fail
  refine wp_world' (fun wx => Blk wx w.heap.size Y 53 ∧ Below w.heap.size w wx ∧ Els wx p 2 (l.map stV)) ⟨Blk.new _ _ _, new_below _ _, hL0.out⟩ ?_
  clear hL0
  rintro w1 ⟨hB, hb, hL⟩
  replace hB := Lib.hid hB
  replace hb := Lib.hid hb
  replace hL := Lib.hid hL
  go_wp2_with fail
  go_loopw [9] (fun s9 wx => ∃ i : Nat, i ≤ ln ∧ s9 = .int .i64 i ∧ wx = w1) (fun s9 _ => ln - (intOf s9).toNat)
  case atStart => exact ⟨0, Nat.zero_le _, rfl, rfl⟩
  case round =>
    obtain ⟨i, hi, rfl, rfl⟩ := hrel
    by_cases hlt : i < ln
    · have hltI : (i : Int) < (ln : Int) := by omega
      have hi0 : (0 : Int) ≤ (i : Int) := by omega
      have s1 : IntKind.i64.wrap ((i : Int) + 1) = (i : Int) + 1 := IntWalk.i64_in _ (by omega)
      have hkl : i < l.length := by rw [hln.out]; exact hlt
      obtain ⟨aL, e⟩ := hL.out.some_of (k := i) (by simpa using hkl)
      subst e
      have c0 := hL.out.cells aL rfl i (stV l[i]) 0 (.int .i64 l[i].1) (by rw [List.getElem?_map, List.getElem?_eq_getElem hkl]; rfl) rfl
      rw [Nat.add_zero] at c0
      have hne := hn.out l[i] (List.getElem_mem hkl)
      generalize l[i].1 = u at c0 hne
      have hne2 : (u == (r : Int)) = false := beq_eq_false_iff_ne.2 hne
      replace c0 := Lib.hid (run_i64R c0)
      clear hkl
      go_wp2_with (refine wpList_load_v rfl 3 _ rfl (aL.add (i * 2)) rfl _ c0.out ?_)
      go_roundw
      case rel => exact ⟨i + 1, by omega, by simp, trivial⟩
      case measure => simp [intOf]; omega
    · obtain rfl : i = ln := by omega
      have hl1 := Lib.hid (hlr.out _ hb.out)
      clear hL hlr
      go_wp2_with (refine wpList_load_v rfl 72 _ rfl (aT.add (r * 10)) rfl _ hl1.out ?_)
      refine (hck.out _).mono ?_
      rintro e w2 ⟨rfl, hb2⟩
      replace hB := Lib.hid (hB.out.mod ((Mod.refl (fun _ => False) _).after hb2) (fun h => h))
      replace hb := Lib.hid (hb.out.trans (hb2.mono hb.out.size))
      have hl2 := Lib.hid (hlv.out _ hB.out)
      clear hb2 hl1 hck
      go_wp2_with (refine wpList_load_v rfl 53 _ rfl ⟨w.heap.size, 0, none⟩ rfl _ hl2.out ?_)
      refine (hve.out _).mono ?_
      rintro e w3 ⟨rfl, hb2⟩
      replace hB := Lib.hid (hB.out.mod ((Mod.refl (fun _ => False) _).after hb2) (fun h => h))
      replace hb := Lib.hid (hb.out.trans (hb2.mono hb.out.size))
      have hl3 := Lib.hid (hlv.out _ hB.out)
      have hf := hfr.out _ hb.out
      clear hb2 hl2 hve
      go_wp2_with (refine wpList_load_v rfl 53 _ rfl ⟨w.heap.size, 0, none⟩ rfl _ hl3.out ?_)
      refine hf.mono ?_
      rintro e w4 ⟨q4, d4, rfl, hb2, -⟩
      replace hb := Lib.hid (hb.out.trans (hb2.mono hb.out.size))
      have s2 : IntKind.i64.wrap ((i : Int) + 2) = (i : Int) + 2 := IntWalk.i64_in _ (by omega)
      clear hb2 hl3 hf hfr hlv hB
      by_cases h14 : 14 < i
      · have hR2 := hRC.out
        rw [if_pos h14] at hR2
        subst hR2
        have h16 : (16 : Int) < (i : Int) + 2 := by omega
        go_wp2_with fail
        go_ret
        exact ⟨rfl, hb.out⟩
      · have hR2 := hRC.out
        rw [if_neg h14] at hR2
        subst hR2
        have h16 : ¬ (16 : Int) < (i : Int) + 2 := by omega
        go_wp2_with fail
        go_ret
        exact ⟨rfl, hb.out⟩
end Go.Proofs.YtdmnoogppmckaaaGreat
namespace Go.Proofs.YtdmnoogppmckaaaGreat
open Go.RowKit

theorem wyR_el : ElT Tryz.prog 193 157 3 24 := ⟨Tryz.underlying193, by kernel_rfl, by kernel_rfl, by kernel_rfl, by omega, by omega⟩
theorem run_bwyR (a b c : Int) (w : World) : (Instr.build 157 #[(0, .int .i64 a), (1, .int .i64 b), (2, .int .i64 c)]).run Tryz.prog w = .ok (.agg (tmV (a, b, c)).toArray) w := by kernel_rfl
theorem rsl_wyR (u : Wy) (w : World) : (Instr.buildSlice 193 1 #[(0, .agg (tmV u).toArray)]).run Tryz.prog w = .ok (.slice (some ⟨w.heap.size, 0, none⟩) 1 1) (w.alloc (.cells (tmV u).toArray 157)) := by kernel_rfl
theorem run_subW {ρ : Operand → Value} {o : Oper} {w : World} {x y : Operand} {m n k : Int} (hk : IntKind.i64.wrap (m - n) = k) (ho : o.op = .binOp .sub 3 x y 3) (hx : ρ x = .int .i64 m) (hy : ρ y = .int .i64 n) : (execOp ρ o).run Tryz.prog w = .ok (.value (.int .i64 k)) w := by
  subst hk
  unfold execOp
  simp only [ho, hx, hy]
  go_simp
theorem run_bldA3 {ρ : Operand → Value} {o : Oper} {w : World} {ty : TypeId} {x y z : Operand} {a b c v : Value} (ho : o.op = .build ty #[(0, x), (1, y), (2, z)]) (hx : ρ x = a) (hy : ρ y = b) (hz : ρ z = c) (hr : (Instr.build ty #[(0, a), (1, b), (2, c)]).run Tryz.prog w = .ok v w) : (execOp ρ o).run Tryz.prog w = .ok (.value v) w := by
  unfold execOp
  simp only [ho, List.map_toArray, List.map_cons, List.map_nil, hx, hy, hz, Sem.run_bind, hr, Sem.run_pure, Result.andThen_ok]
/-- what the document's All answers of a right route -/
def rallP (v : Ve) (l : Rou2) (t : List Rq) (req : Int) : List Wy × Int := if 14 < l.length then ([], 11) else (wysP (v 0) (v 1) (v 2) (v 3) (v 4) l t req (prs l.length), 0)
def WyPost (w : World) (R : List Wy × Int) (e : Ending) (w' : World) : Prop :=
  Below w.heap.size w w' ∧ ∃ q d, e = .returned (.tuple #[.slice q R.1.length d, .int .i64 R.2]) ∧ Els w' q 3 (R.1.map tmV)
set_option maxHeartbeats 8000000 in
set_option maxRecDepth 100000 in
theorem rall12_calls {v : Ve} {l : Rou2} {t : List Rq} {r : Nat} (hR : RightV v l t) (hr : r < t.length) (hn : ∀ s ∈ l, s.1 ≠ (r : Int)) (p p' : Option Addr) (c c' : Nat) (w : World) (hL : Els w p 2 (l.map stV)) (hc : l.length ≤ c ∧ c ≤ 9223372036854775807) (hT : Els w p' 10 (t.map rqV)) :
    Calls Tryz.prog 120 #[.agg (veR v).toArray, .slice p l.length c, .slice p' t.length c', .int .i64 (r : Int)] w (WyPost w (rallP v l t r)) := by
  have hl16 := hR.2.2.1
  have htb := totV_bd hR
  have hrg := Lib.hid (fun wx (hb : Below w.heap.size w wx) => rright_calls hR hr hn p p' c c' wx (hL.below hb) hc (hT.below hb))
  have hfr := Lib.hid (fun wx (hb : Below w.heap.size w wx) => (show Calls Tryz.prog 142 #[.agg (veR v).toArray, .slice p l.length c, .slice p' t.length c', .int .i64 (-1), .int .i64 0] wx (TmPost wx (timV v l t)) from from_calls _ _ _ _ _ p p' c c' l t wx (hL.below hb) hc (hT.below hb)))
  have hwi := Lib.hid (fun wx (hb : Below w.heap.size w wx) (i j : Nat) => rwith_calls p c l (r : Int) (i : Int) (j : Int) wx (hL.below hb))
  have hfi := Lib.hid (fun wx (hb : Below w.heap.size w wx) (M : Rou2) (q : Option Addr) (d : Nat) (hM : Els wx q 2 (M.map stV)) (hd : M.length ≤ d ∧ d ≤ 9223372036854775807) => (show Calls Tryz.prog 143 #[.agg (veR v).toArray, .slice q M.length d, .slice p' t.length c'] wx fun e w' => e = .returned (.tuple #[.int .i64 (fitP (v 0) (v 1) (v 2) (v 3) (v 4) M t).1, .int .i64 (fitP (v 0) (v 1) (v 2) (v 3) (v 4) M t).2]) ∧ Below wx.heap.size wx w' from
    rfits_calls _ _ _ _ _ q p' d c' M t wx hM hd (hT.below hb)))
  have hfm := Lib.hid (fun wx (hb : Below w.heap.size w wx) (M : Rou2) (q : Option Addr) (d : Nat) (hM : Els wx q 2 (M.map stV)) (hd : M.length ≤ d ∧ d ≤ 9223372036854775807) => (show Calls Tryz.prog 142 #[.agg (veR v).toArray, .slice q M.length d, .slice p' t.length c', .int .i64 (-1), .int .i64 0] wx (TmPost wx (timV v M t)) from from_calls _ _ _ _ _ q p' d c' M t wx hM hd (hT.below hb)))
  obtain ⟨L0, en, e0, hTM⟩ : ∃ L en e0, timV v l t = (L, en, e0) := ⟨_, _, _, rfl⟩
  have hw1 := Lib.hid (fun (h14 : l.length ≤ 14) (i j : Nat) (hij : i ≤ j) (hj : j ≤ l.length) (h : RightV v (withL l r i j) t) => (by
    have := wy_right hij hj (by omega : (0 : Int) ≤ (r : Int) ∧ (r : Int) < t.length) hn h14 h
    rw [hTM] at this
    exact this : wyOf (v 0) (v 1) (v 2) (v 3) (v 4) l t r ((i : Int), (j : Int)) = [((i : Int), (j : Int), (timV v (withL l r i j) t).2.1 - en)]))
  have hw0 := Lib.hid (fun (h14 : l.length ≤ 14) (i j : Nat) (hij : i ≤ j) (hj : j ≤ l.length) (h : ¬ RightV v (withL l r i j) t) => wy_wrong hij hj (by omega : (0 : Int) ≤ (r : Int) ∧ (r : Int) < t.length) hn h14 h)
  have hws := Lib.hid (fun (h14 : l.length ≤ 14) (i j : Nat) (hij : i ≤ j) (hj : j ≤ l.length) => withP_some hij hj (by omega : (0 : Int) ≤ (r : Int)) hn h14)
  have hbE : 0 ≤ en ∧ en ≤ 2097152 := by
    obtain ⟨b1, b2, b3, _⟩ := htb
    unfold totV at b1 b2
    rw [hTM] at b1 b2
    dsimp only at b1 b2
    omega
  obtain ⟨_, _, _, p4⟩ := htb
  rw [hTM] at hfr p4
  obtain rfl : e0 = 0 := p4
  unfold TmPost at hfr
  dsimp only at hfr
  have hRC : rallP v l t r = if 14 < l.length then ([], 11) else (wysP (v 0) (v 1) (v 2) (v 3) (v 4) l t r (prs l.length), 0) := rfl
  generalize rallP v l t r = RC at hRC ⊢
  obtain ⟨Y, hY⟩ : ∃ Y, (veR v).toArray = Y := ⟨_, rfl⟩
  have hYs : Y.size = 5 := by rw [← hY]; rfl
  rw [hY] at hfr hrg hfi hfm ⊢
  have hlv := Lib.hid (fun wx (h : Blk wx w.heap.size Y 53) => run_load_row (P := Tryz.prog) wx w.heap.size 53 Y _ _ h Tryz.underlying53 rfl (by rw [hYs]; kernel_rfl))
  obtain ⟨ln, hln⟩ : ∃ ln, l.length = ln := ⟨_, rfl⟩
  obtain ⟨T, hTT⟩ : ∃ T, t.length = T := ⟨_, rfl⟩
  rw [hln] at hl16 hfr hrg hw1 hw0 hws hwi hRC ⊢
  rw [hTT] at hr hfr hrg hfi hfm ⊢
  have hlen := Lib.hid (fun (i j : Nat) (hij : i ≤ j) (hj : j ≤ ln) => (by rw [withL_len l (r : Int) hij (by omega), hln] : (withL l r i j).length = ln + 2))
  replace hRC := Lib.hid hRC
  obtain ⟨ws, hwsE⟩ : ∃ ws : List (Int × Int) → List Wy, (fun ps => wysP (v 0) (v 1) (v 2) (v 3) (v 4) l t r ps) = ws := ⟨_, rfl⟩
  have hsnoc : ∀ ps q, ws (ps ++ [q]) = ws ps ++ wyOf (v 0) (v 1) (v 2) (v 3) (v 4) l t r q := fun ps q => by rw [← hwsE]; exact wysP_snoc _ _ _ _ _ _ _ _ _ _
  have hwl : ∀ ps, (ws ps).length ≤ ps.length := fun ps => by rw [← hwsE]; exact wysP_len _ _ _ _ _ _ _ _ _
  have hw00 : ws [] = [] := by rw [← hwsE]; rfl
  have hRC2 := Lib.hid (show RC = if 14 < ln then ([], 11) else (ws (prs ln), 0) from by rw [hRC.out, ← hwsE])
  replace hsnoc := Lib.hid hsnoc
  replace hwl := Lib.hid hwl
  replace hw00 := Lib.hid hw00
  clear hTM hY hYs hTT hL hT hln hn hRC hwsE
  go_enter Tryz.func120, Tryz.ntmps120
  go_upto_region 1 with fail
  refine wp_world' (fun wx => Blk wx w.heap.size Y 53 ∧ Below w.heap.size w wx) ⟨Blk.new _ _ _, new_below _ _⟩ ?_
  rintro w1 ⟨hB, hb⟩
  have hl1 := Lib.hid (hlv.out _ hB)
  have hg := hrg.out _ hb
  replace hB := Lib.hid hB
  replace hb := Lib.hid hb
  go_wp2_with (refine wpList_load_v rfl 53 _ rfl ⟨w.heap.size, 0, none⟩ rfl _ hl1.out ?_)
  refine hg.mono ?_
  clear hg hl1 hrg
  rintro e w2 ⟨rfl, hb2⟩
  replace hB := Lib.hid (hB.out.mod ((Mod.refl (fun _ => False) _).after hb2) (fun h => h))
  replace hb := Lib.hid (hb.out.trans (hb2.mono hb.out.size))
  clear hb2
  by_cases h14 : 14 < ln
  · rw [if_pos h14]
    have hX := hRC2.out
    rw [if_pos h14] at hX
    subst hX
    go_wp2_with fail
    go_ret2
    exact ⟨hb.out, none, 0, rfl, els_nilP _ _ _⟩
  · rw [if_neg h14]
    have hX := hRC2.out
    rw [if_neg h14] at hX
    subst hX
    have h14' : ln ≤ 14 := by omega
    have hl2 := Lib.hid (hlv.out _ hB.out)
    have hf := hfr.out _ hb.out
    clear hRC2
    go_wp2_with (refine wpList_load_v rfl 53 _ rfl ⟨w.heap.size, 0, none⟩ rfl _ hl2.out ?_)
    refine hf.mono ?_
    clear hf hl2 hfr
    rintro e w3 ⟨q3, d3, rfl, hb2, -⟩
    replace hB := Lib.hid (hB.out.mod ((Mod.refl (fun _ => False) _).after hb2) (fun h => h))
    replace hb := Lib.hid (hb.out.trans (hb2.mono hb.out.size))
    clear hb2
    obtain ⟨N, hN⟩ : ∃ N, N = ln + 1 := ⟨_, rfl⟩
    go_wp2_with fail
    go_loopw [14, 15] (fun s14 s15 wx => ∃ i : Nat, i ≤ N ∧ s15 = .int .i64 i ∧ wx.ownsRow (w.heap.size + 1) 157 3 s14 (ws (prsI N i)).length ((ws (prsI N i)).map tmV).flatten ∧ Blk wx w.heap.size Y 53 ∧ Below w.heap.size w wx) (fun _ s15 _ => N - (intOf s15).toNat)
    case atStart => exact ⟨0, Nat.zero_le _, rfl, by rw [show prsI N 0 = [] from rfl, hw00.out]; exact World.ownsRow_nil _ _ _ _, hB.out, hb.out⟩
    case round =>
      clear hB hb
      obtain ⟨i, hi, rfl, hO, hB, hb⟩ := hrel
      by_cases hlt : i ≤ ln
      · have hltI : (i : Int) ≤ (ln : Int) := by omega
        have hi0 : (0 : Int) ≤ (i : Int) := by omega
        have s1 : IntKind.i64.wrap ((i : Int) + 1) = (i : Int) + 1 := IntWalk.i64_in _ (by omega)
        replace hO := Lib.hid hO
        replace hB := Lib.hid hB
        replace hb := Lib.hid hb
        go_wp2_with fail
        go_loopw [14, 16] (fun s14 s16 wx => ∃ d : Nat, d ≤ N - i ∧ s16 = .int .i64 ((i + d : Nat) : Int) ∧ wx.ownsRow (w.heap.size + 1) 157 3 s14 (ws (prsJ N i d)).length ((ws (prsJ N i d)).map tmV).flatten ∧ Blk wx w.heap.size Y 53 ∧ Below w.heap.size w wx) (fun _ s16 _ => N - (intOf s16).toNat)
        case atStart => exact ⟨0, Nat.zero_le _, rfl, by rw [prsJ_zero]; exact hO.out, hB.out, hb.out⟩
        case round =>
          clear hO hB hb
          obtain ⟨d, hd, rfl, hO, hB, hb⟩ := hrel
          obtain ⟨p9, m9, c9, rfl⟩ := own_isS hO
          by_cases hlt2 : i + d ≤ ln
          · have hsc := Lib.hid (prsJ_succ N i d)
            have hsn := Lib.hid (hsnoc.out (prsJ N i d) ((i : Int), ((i + d : Nat) : Int)))
            have hle := hwl.out (prsJ N i d)
            have hpl : (prsJ N i d).length ≤ 1000 := by
              have h1 := prsI_leC N i (by omega)
              unfold prsJ
              rw [List.length_append, rowP_len]
              have h2 : i * N ≤ 15 * 15 := Nat.mul_le_mul (by omega) (by omega)
              omega
            have hwy1 := hw1.out h14' i (i + d) (by omega) hlt2
            have hwy0 := hw0.out h14' i (i + d) (by omega) hlt2
            have hwp := hwi.out _ hb i (i + d)
            rw [hws.out h14' i (i + d) (by omega) hlt2] at hwp
            unfold WiPost at hwp
            dsimp only [Option.getD_some, Option.isSome_some] at hwp
            have hml := hlen.out i (i + d) (by omega) hlt2
            obtain ⟨jj, hjj⟩ : ∃ jj : Int, ((i + d : Nat) : Int) = jj := ⟨_, rfl⟩
            rw [hjj] at hsc hsn hwy1 hwy0 hwp ⊢
            have hjI : jj ≤ (ln : Int) := by omega
            have s2 : IntKind.i64.wrap (jj + 1) = jj + 1 := IntWalk.i64_in _ (by omega)
            replace hjj := Lib.hid hjj
            generalize withL l r i (i + d) = M at *
            replace hO := Lib.hid hO
            replace hB := Lib.hid hB
            replace hb := Lib.hid hb
            replace hwy1 := Lib.hid hwy1
            replace hwy0 := Lib.hid hwy0
            obtain ⟨mn, hmn⟩ : ∃ mn, M.length = mn := ⟨_, rfl⟩
            rw [hmn] at hwp hml
            have hmI : mn ≤ 16 := by omega
            clear hml
            replace hmn := Lib.hid hmn
            go_wp2_with fail
            refine hwp.mono ?_
            clear hwp
            rintro e w4 ⟨⟨q4, d4, rfl, hd4, hE4⟩, hb4⟩
            replace hO := Lib.hid (own_below hO.out hb4)
            replace hB := Lib.hid (hB.out.mod ((Mod.refl (fun _ => False) _).after hb4) (fun h => h))
            replace hb := Lib.hid (hb.out.trans (hb4.mono hb.out.size))
            have hl4 := Lib.hid (hlv.out _ hB.out)
            have hf := hfi.out _ hb.out M q4 d4 hE4 (by rw [hmn.out]; exact hd4)
            rw [hmn.out] at hf
            replace hE4 := Lib.hid hE4
            obtain ⟨f1, hf1⟩ : ∃ f1, (fitP (v 0) (v 1) (v 2) (v 3) (v 4) M t).1 = f1 := ⟨_, rfl⟩
            obtain ⟨f2, hf2⟩ : ∃ f2, (fitP (v 0) (v 1) (v 2) (v 3) (v 4) M t).2 = f2 := ⟨_, rfl⟩
            rw [hf1, hf2] at hf
            clear hb4 hf1
            go_wp2_with (refine wpList_load_v rfl 53 _ rfl ⟨w.heap.size, 0, none⟩ rfl _ hl4.out ?_)
            refine hf.mono ?_
            clear hf hl4
            rintro e w5 ⟨rfl, hb5⟩
            replace hO := Lib.hid (own_below hO.out hb5)
            replace hB := Lib.hid (hB.out.mod ((Mod.refl (fun _ => False) _).after hb5) (fun h => h))
            replace hb := Lib.hid (hb.out.trans (hb5.mono hb.out.size))
            have hl5 := Lib.hid (hlv.out _ hB.out)
            have hf := hfm.out _ hb.out M q4 d4 (hE4.out.below hb5) (by rw [hmn.out]; exact hd4)
            rw [hmn.out] at hf
            have hri := right_iff (v 0) (v 1) (v 2) (v 3) (v 4) M t
            rw [hf2] at hri
            obtain ⟨LM, eM, cM, hTM⟩ : ∃ LM eM cM, timV v M t = (LM, eM, cM) := ⟨_, _, _, rfl⟩
            rw [show tmP (v 0) (v 1) (v 2) (v 3) (v 4) M t = timV v M t from rfl, hTM] at hri
            rw [hTM] at hf hwy1
            have hbM : RightV v M t → 0 ≤ eM ∧ eM ≤ 2097152 := fun h => by
              obtain ⟨b1, b2, b3, _⟩ := totV_bd h
              unfold totV at b1 b2
              rw [hTM] at b1 b2
              dsimp only at b1 b2
              omega
            unfold TmPost at hf
            dsimp only at hf hri hwy1
            replace hri := Lib.hid hri
            replace hbM := Lib.hid hbM
            clear hb5 hE4 hTM hf2
            go_wp2_with (refine wpList_load_v rfl 53 _ rfl ⟨w.heap.size, 0, none⟩ rfl _ hl5.out ?_)
            refine hf.mono ?_
            clear hf hl5
            rintro e w6 ⟨q6, d6, rfl, hb6, -⟩
            replace hO := Lib.hid (own_below hO.out hb6)
            replace hB := Lib.hid (hB.out.mod ((Mod.refl (fun _ => False) _).after hb6) (fun h => h))
            replace hb := Lib.hid (hb.out.trans (hb6.mono hb.out.size))
            clear hb6
            by_cases hgood : f2 = 0 ∧ cM = 0
            · obtain ⟨rfl, rfl⟩ := hgood
              have hRM : RightV v M t := hri.out.2 ⟨rfl, rfl⟩
              have hbm := hbM.out hRM
              have s3 : IntKind.i64.wrap (eM - en) = eM - en := IntWalk.i64_in _ (by omega)
              have hw2 := Lib.hid (show ws (prsJ N i (d + 1)) = ws (prsJ N i d) ++ [((i : Int), jj, eM - en)] from by rw [hsc.out, hsn.out, hwy1.out hRM])
              have hOA := Lib.hid (own_mod hO.out ((Mod.refl (fun _ => False) w6).alloc (.cells (tmV ((i : Int), jj, eM - en)).toArray 157)) (fun _ _ h => h))
              have hlow := Lib.hid (hb.out.alloc hb.out.size (.cells (tmV ((i : Int), jj, eM - en)).toArray 157))
              have hzA := Lib.hid (show w.heap.size + 1 ≤ (w6.alloc (.cells (tmV ((i : Int), jj, eM - en)).toArray 157)).heap.size from by have := hB.out.lt; simp; omega)
              have hBA := Lib.hid (hB.out.alloc (.cells (tmV ((i : Int), jj, eM - en)).toArray 157))
              have hal3 : (ws (prsJ N i d)).length ≤ 100000 := by omega
              clear hO hb hB hbm hri hbM hwy1 hwy0 hsc hsn hRM
              go_upto_region 18 with fail
              refine wp_region_lit ?_
              refine wpList_v rfl _ (run_mov rfl rfl) ?_
              simp only [Act.put, List.setIfInBounds_toArray, List.set_cons_succ, List.set_cons_zero]
              refine wpList_v rfl _ (run_mov rfl rfl) ?_
              simp only [Act.put, List.setIfInBounds_toArray, List.set_cons_succ, List.set_cons_zero]
              refine wpList_v rfl _ (run_mov rfl rfl) ?_
              simp only [Act.put, List.setIfInBounds_toArray, List.set_cons_succ, List.set_cons_zero]
              refine wpList_v rfl _ (run_mov rfl rfl) ?_
              simp only [Act.put, List.setIfInBounds_toArray, List.set_cons_succ, List.set_cons_zero]
              refine wpList_v rfl _ (run_mov rfl rfl) ?_
              simp only [Act.put, List.setIfInBounds_toArray, List.set_cons_succ, List.set_cons_zero]
              refine wpList_v rfl (.int .i64 (eM - en)) (run_subW s3 rfl rfl rfl) ?_
              simp only [Act.put, List.setIfInBounds_toArray, List.set_cons_succ, List.set_cons_zero]
              refine wpList_v rfl (.agg (tmV ((i : Int), jj, eM - en)).toArray) (run_bldA3 (a := .int .i64 (i : Int)) (b := .int .i64 jj) (c := .int .i64 (eM - en)) rfl rfl rfl rfl (run_bwyR _ _ _ _)) ?_
              simp only [Act.put, List.setIfInBounds_toArray, List.set_cons_succ, List.set_cons_zero]
              refine wpList_bs1 rfl 193 1 0 _ rfl (.agg (tmV ((i : Int), jj, eM - en)).toArray) rfl _ _ (rsl_wyR ((i : Int), jj, eM - en) _) ?_
              simp only [Act.put, List.setIfInBounds_toArray, List.set_cons_succ, List.set_cons_zero]
              refine wpList_appG wyR_el rfl _ _ rfl (w.heap.size + 1) hzA.out _ (ws (prsJ N i d)).length _ rfl hOA.out hal3 ⟨w6.heap.size, 0, none⟩ 1 1 (tmV ((i : Int), jj, eM - en)) rfl rfl (by omega) (row_cells (Blk.new w6 _ _)) (tm_one _) ?_
              intro v7 w7 hO7 hg7
              have hb7 := Lib.hid (grown_low hlow.out (Nat.le_succ _) (Nat.le_refl _) hOA.out hg7)
              have hB7 := Lib.hid (grown_blk hBA.out hOA.out (Nat.lt_succ_self _) hg7)
              replace hO7 := Lib.hid hO7
              clear hg7 hOA hzA hlow hBA
              simp only [Act.put, List.setIfInBounds_toArray, List.set_cons_succ, List.set_cons_zero]
              go_wp2_with fail
              go_roundw
              case rel => exact ⟨d + 1, by omega, by have := hjj.out; simp; omega, by rw [hw2.out]; simpa using hO7.out, hB7.out, hb7.out⟩
              case measure => have := hjj.out; simp [intOf]; omega
            · have hRM : ¬ RightV v M t := fun h => hgood (by have := hri.out.1 h; exact ⟨this.2, this.1⟩)
              have hw2 := Lib.hid (show ws (prsJ N i (d + 1)) = ws (prsJ N i d) from by rw [hsc.out, hsn.out, hwy0.out hRM, List.append_nil])
              clear hri hbM hwy1 hwy0 hsc hsn hRM
              by_cases hf20 : f2 = 0
              · subst hf20
                have hcM : (cM == 0) = false := beq_eq_false_iff_ne.2 (fun e => hgood ⟨rfl, e⟩)
                clear hgood
                go_wp2_with fail
                go_roundw
                case rel => exact ⟨d + 1, by omega, by have := hjj.out; simp; omega, by rw [hw2.out]; exact hO.out, hB.out, hb.out⟩
                case measure => have := hjj.out; simp [intOf]; omega
              · have hcM : (f2 == 0) = false := beq_eq_false_iff_ne.2 hf20
                clear hgood
                go_wp2_with fail
                go_roundw
                case rel => exact ⟨d + 1, by omega, by have := hjj.out; simp; omega, by rw [hw2.out]; exact hO.out, hB.out, hb.out⟩
                case measure => have := hjj.out; simp [intOf]; omega
          · obtain rfl : d = N - i := by omega
            rw [prsJ_end] at hO
            replace hO := Lib.hid hO
            replace hB := Lib.hid hB
            replace hb := Lib.hid hb
            have hnle : ¬ ((i + (N - i) : Nat) : Int) ≤ (ln : Int) := by omega
            go_wp2_with fail
            go_roundw
            case rel => exact ⟨i + 1, by omega, by simp, hO.out, hB.out, hb.out⟩
            case measure => simp [intOf]; omega
      · obtain rfl : i = N := by omega
        have hnle : ¬ (i : Int) ≤ (ln : Int) := by omega
        have hpz : prs (ln : Int) = prsI i i := by unfold prs; rw [if_neg (by omega)]; congr 1 <;> omega
        have hle := hwl.out (prsI i i)
        have hpl : (prsI i i).length ≤ 1000 := by
          have h1 := prsI_leC i i (Nat.le_refl _)
          have h2 : i * i ≤ 15 * 15 := Nat.mul_le_mul (by omega) (by omega)
          omega
        obtain ⟨q9, m9, d9, rfl⟩ := own_isS hO
        obtain rfl := own_lenC hO
        obtain ⟨h1, _, _, _⟩ := own_els (R := (ws (prsI i i)).map tmV) (tmV_len _) (by rw [List.length_map]; exact hO) (by rw [List.length_map]; omega)
        replace h1 := Lib.hid h1
        replace hb := Lib.hid hb
        replace hpz := Lib.hid hpz
        replace hN := Lib.hid hN
        clear hO hB
        go_wp2_with fail
        go_ret2
        have hz : WyPost w (ws (prs (ln : Int)), 0) (.returned (.tuple #[.slice q9 (ws (prsI i i)).length d9, .int .i64 0])) wr := by rw [hpz.out]; exact ⟨hb.out, q9, d9, rfl, h1.out⟩
        exact hz
end Go.Proofs.YtdmnoogppmckaaaGreat
namespace Go.Proofs.YtdmnoogppmckaaaGreat
open Go.RowKit

/-- what the document's Best answers of a right route -/
def rbstP (v : Ve) (l : Rou2) (t : List Rq) (req : Int) : Wy × Int :=
  if (rallP v l t req).2 ≠ 0 then ((0, 0, 0), (rallP v l t req).2) else match (rallP v l t req).1 with | [] => ((0, 0, 0), 12) | b :: r => (lstW b r, 0)
theorem rbst_is {v : Ve} {l : Rou2} {t : List Rq} {req : Int} (hR : RightV v l t) (hr : 0 ≤ req ∧ req < t.length) (hn : ∀ s ∈ l, s.1 ≠ req) :
    ((rbstP v l t req).2 = 0 ↔ (bestV v l t req).2 = 0) ∧ ((bestV v l t req).2 = 0 → rbstP v l t req = bestV v l t req) := by
  by_cases h14 : 14 < l.length
  · have h1 : rbstP v l t req = ((0, 0, 0), 11) := by
      unfold rbstP rallP
      rw [if_pos h14]
      rfl
    have h2 : (bestV v l t req).2 ≠ 0 := fun h => by
      obtain ⟨_, _, _, _, h3, _⟩ := best_ok hR hr hn h
      omega
    rw [h1]
    exact ⟨⟨fun h => (by cases h), fun h => absurd h h2⟩, fun h => absurd h h2⟩
  · have hc := rise_code (i := 0) (j := 0) (Nat.le_refl _) (Nat.zero_le _) hr hn (by omega) hR
    have hall : allP (v 0) (v 1) (v 2) (v 3) (v 4) l t req = (wysP (v 0) (v 1) (v 2) (v 3) (v 4) l t req (prs l.length), 0) := by
      unfold allP
      exact if_pos hc
    have e : rbstP v l t req = bestV v l t req := by
      unfold rbstP rallP bestV bestP
      rw [if_neg h14, hall]
      rfl
    rw [e]
    exact ⟨Iff.rfl, fun _ => rfl⟩
theorem ld_wyR {w : World} {a : Addr} {L : List Wy} {k : Nat} (h : Els w (some a) 3 (L.map tmV)) (hk : k < L.length) : (loadVar 157 (a.add (k * 3))).run Tryz.prog w = .ok (.agg (tmV L[k]).toArray) w := by
  have := h.load (P := Tryz.prog) (a := a) rfl (k := k) (by simpa using hk) (ty := 157) Tryz.underlying157 rfl (by kernel_rfl)
  rw [List.getElem_map] at this
  exact this
theorem run_ixWyR {ρ : Operand → Value} {o : Oper} {w : World} {x y : Operand} {a : Addr} {n c k : Nat} (ho : o.op = .indexAddr 193 x y) (hx : ρ x = .slice (some a) n c) (hy : ρ y = .int .i64 k) (hk : k < n) : (execOp ρ o).run Tryz.prog w = .ok (.value (.pointer (some (a.add (k * 3))))) w := by
  have h0 : (0 : Int) ≤ (k : Int) := by omega
  have h1 : (k : Int) < (n : Int) := by omega
  have h2 : ((k : Int)).toNat = k := by omega
  unfold execOp
  simp only [ho, hx, hy]
  go_simp
theorem addr_2R (b : Addr) : b.add 2 = ⟨b.block, b.off + 2, none⟩ := by unfold Addr.add; simp
theorem run_bwzR (w : World) : (Instr.build 157 #[]).run Tryz.prog w = .ok (.agg (tmV (0, 0, 0)).toArray) w := by kernel_rfl
set_option maxHeartbeats 4000000 in
set_option maxRecDepth 100000 in
theorem rbest12_calls {v : Ve} {l : Rou2} {t : List Rq} {r : Nat} (hR : RightV v l t) (hr : r < t.length) (hn : ∀ s ∈ l, s.1 ≠ (r : Int)) (p p' : Option Addr) (c c' : Nat) (w : World) (hL : Els w p 2 (l.map stV)) (hc : l.length ≤ c ∧ c ≤ 9223372036854775807) (hT : Els w p' 10 (t.map rqV)) :
    Calls Tryz.prog 90 #[.agg (veR v).toArray, .slice p l.length c, .slice p' t.length c', .int .i64 (r : Int)] w fun e w' =>
      e = .returned (.tuple #[.agg (tmV (rbstP v l t r).1).toArray, .int .i64 (rbstP v l t r).2]) ∧ Below w.heap.size w w' := by
  have ha := fun wx (h : Below w.heap.size w wx) => rall12_calls hR hr hn p p' c c' wx (hL.below h) hc (hT.below h)
  have hX : rbstP v l t r = if (rallP v l t r).2 ≠ 0 then ((0, 0, 0), (rallP v l t r).2) else match (rallP v l t r).1 with | [] => ((0, 0, 0), 12) | b :: r => (lstW b r, 0) := rfl
  have hlen : (rallP v l t r).1.length ≤ 306 := by
    unfold rallP
    split
    · simp
    · exact Nat.le_trans (wysP_len _ _ _ _ _ _ _ _ _) (prs_leC _)
  generalize rbstP v l t r = X at hX ⊢
  obtain ⟨ws, E, hA⟩ : ∃ ws E, rallP v l t r = (ws, E) := ⟨_, _, rfl⟩
  rw [hA] at ha hX hlen
  unfold WyPost at ha
  dsimp only at ha hX hlen
  obtain ⟨V, hV⟩ : ∃ V : Array Value, (veR v).toArray = V := ⟨_, rfl⟩
  have hsV : V.size = 5 := by rw [← hV]; rfl
  have hlv := Lib.hid (fun wx (h : Blk wx w.heap.size V 53) => run_load_row' (P := Tryz.prog) wx w.heap.size 53 V 53 _ h Tryz.underlying53 rfl (by rw [hsV]; kernel_rfl))
  rw [hV] at ha ⊢
  obtain ⟨ln, hln⟩ : ∃ ln, l.length = ln := ⟨_, rfl⟩
  obtain ⟨T, hTT⟩ : ∃ T, t.length = T := ⟨_, rfl⟩
  rw [hln, hTT] at ha ⊢
  replace ha := Lib.hid ha
  replace hX := Lib.hid hX
  clear hV hsV hA hL hT hln hTT hR hr hn hc
  go_enter Tryz.func90, Tryz.ntmps90
  go_upto_region 1 with fail
  refine wp_world' (fun wx => Blk wx w.heap.size V 53 ∧ Blk wx (w.heap.size + 1) (tmV (0, 0, 0)).toArray 157 ∧ Below w.heap.size w wx) ⟨(Blk.new _ _ _).alloc _, blk_newAtC (by simp) _ _, (new_below _ _).alloc (by simp) _⟩ ?_
  rintro w1 ⟨hB, hR, hb⟩
  have hl1 := Lib.hid (hlv.out _ hB)
  have ha1 := Lib.hid (ha.out _ hb)
  replace hR := Lib.hid hR
  clear hB
  go_wp2_with (refine wpList_load_v rfl 53 _ rfl ⟨w.heap.size, 0, none⟩ rfl _ hl1.out ?_)
  refine ha1.out.mono ?_
  rintro e w2 ⟨hb2, q, d, rfl, hE⟩
  have hR2 := hR.out.mod ((Mod.refl (fun _ => False) _).after hb2) (fun h => h)
  have hb3 := hb.trans (hb2.mono hb.size)
  have hlt := hR2.lt
  have HR := Lib.hid hR2
  have HE := Lib.hid hE
  have Hb := Lib.hid hb3
  clear hR hl1 ha1 hlv ha hb hb2 hR2 hE hb3
  by_cases h0 : E = 0
  · subst h0
    have hX2 := hX.out
    rw [if_neg (by simp)] at hX2
    cases ws with
    | nil =>
      dsimp only [List.length_nil] at hX2 ⊢
      subst hX2
      clear hX
      go_wp2_with (first | (refine wpList_build_v rfl 157 rfl _ (run_bwzR _) ?_) |
        (refine wpList_store_row rfl 157 _ _ rfl rfl (w.heap.size + 1) rfl _ (tmV (0, 0, 0)).toArray _ HR.out rfl rfl (tm_one _) (by kernel_rfl) ?_; intro w5 hB5 hm5))
      have hb5 := Hb.out.trans (hm5.below Hb.out.size (fun k (hk : k = w.heap.size + 1) => by omega))
      exact bodyPost_ret (res_ctC Tryz.results90 rfl (run_load_row' (P := Tryz.prog) w5 _ 157 _ 157 _ hB5 Tryz.underlying157 rfl (by kernel_rfl))) rfl ⟨rfl, hb5⟩
    | cons b r0 =>
      dsimp only at hX2
      obtain ⟨n, hnn⟩ : ∃ n, (b :: r0).length = n := ⟨_, rfl⟩
      have hn1 : n = r0.length + 1 := by rw [← hnn]; rfl
      rw [hnn] at hlen ⊢
      subst hX2
      obtain ⟨a, rfl⟩ := HE.out.some_of (k := 0) (by simp)
      have hlk := Lib.hid (fun wx (h : Below w2.heap.size w2 wx) (k : Nat) (hk : k < (b :: r0).length) => ld_wyR (HE.out.below h) hk)
      have hl0 := Lib.hid (show (loadVar 157 (a.add (0 * 3))).run Tryz.prog w2 = .ok (.agg (tmV b).toArray) w2 from hlk.out w2 (Below.refl _ _) 0 (by simp))
      have hst := Lib.hid (fun k (hk : k < r0.length) => (by rw [List.take_succ_eq_append_getElem hk, lstW_snoc] : lstW b (r0.take (k + 1)) = if r0[k].2.2 < (lstW b (r0.take k)).2.2 then r0[k] else lstW b (r0.take k)))
      have hck := Lib.hid (fun wx (h : Below w2.heap.size w2 wx) (k : Nat) (hk : k < r0.length) => (by
        have := (HE.out.below h).cells a rfl (k + 1) (tmV r0[k]) 2 (.int .i64 r0[k].2.2) (by simp [hk]) rfl
        rw [← addr_add_add, addr_2R] at this
        exact run_i64R this : (loadVar 3 ⟨(a.add ((k + 1) * 3)).block, (a.add ((k + 1) * 3)).off + 2, none⟩).run Tryz.prog wx = .ok (.int .i64 r0[k].2.2) wx))
      have hlkS := Lib.hid (fun wx (h : Below w2.heap.size w2 wx) (k : Nat) (hk : k < r0.length) => (by
        have := hlk.out wx h (k + 1) (by simp; omega)
        exact this : (loadVar 157 (a.add ((k + 1) * 3))).run Tryz.prog wx = .ok (.agg (tmV r0[k]).toArray) wx))
      have hnz : ((n : Int) == 0) = false := beq_eq_false_iff_ne.2 (by omega)
      have hnz2 : ¬ ((n : Int) = 0) := by omega
      have hn0 : 0 < n := by omega
      have hfin : Hid (lstW b (r0.take (n - 1)) = lstW b r0) := Lib.hid (by rw [hn1, Nat.add_sub_cancel, List.take_length])
      have hB1 := Lib.hid (Blk.new w2 (tmV b).toArray 157)
      have hR1 := Lib.hid (HR.out.alloc (.cells (tmV b).toArray 157))
      have hbn := Lib.hid (new_below w2 (.cells (tmV b).toArray 157))
      replace hn1 := Lib.hid hn1
      clear hX HE hnn hlk
      go_upto_region 7 with (first | (refine wpList_v rfl (.pointer (some (a.add (0 * 3)))) (run_ixWyR (k := 0) rfl rfl rfl (by omega)) ?_) | (refine wpList_load_v rfl 157 _ rfl (a.add (0 * 3)) rfl _ hl0.out ?_) |
        (refine wpList_store_new rfl 157 _ _ rfl rfl rfl _ (tmV b).toArray _ rfl rfl (tm_one _) (by kernel_rfl) ?_))
      obtain ⟨g, hg⟩ : ∃ g, w2.heap.size = g := ⟨_, rfl⟩
      refine wp_world' (fun wx => Blk wx g (tmV b).toArray 157 ∧ Blk wx (w.heap.size + 1) (tmV (0, 0, 0)).toArray 157 ∧ Below w2.heap.size w2 wx) ⟨by rw [← hg]; exact hB1.out, hR1.out, hbn.out⟩ ?_
      clear hB1 hR1 hbn hl0
      rintro w3 ⟨hG, hR, hb⟩
      rw [hg] at hlt ⊢
      replace hg := Lib.hid hg
      replace hG := Lib.hid hG
      replace hb := Lib.hid hb
      clear hR
      go_wp2_with fail
      go_loopw [13] (fun s13 wx => ∃ m : Nat, (1 ≤ m ∧ m ≤ n) ∧ s13 = .int .i64 m ∧ Blk wx g (tmV (lstW b (r0.take (m - 1)))).toArray 157 ∧ Below w2.heap.size w2 wx) (fun s13 _ => n - (intOf s13).toNat)
      case atStart => exact ⟨1, ⟨Nat.le_refl _, by omega⟩, rfl, hG.out, hb.out⟩
      case round =>
        clear hG hb
        obtain ⟨m, hm, rfl, hG, hb⟩ := hrel
        by_cases hlt1 : m < n
        · have hltI : (m : Int) < (n : Int) := by omega
          have hm0 : (0 : Int) ≤ (m : Int) := by omega
          have s1 : IntKind.i64.wrap ((m : Int) + 1) = (m : Int) + 1 := IntWalk.i64_in _ (by omega)
          have hk : m - 1 < r0.length := by have := hn1.out; omega
          have hm1 : m - 1 + 1 = m := by omega
          have hu1 := fun wx h => hck.out wx h (m - 1) hk
          have hu2 := fun wx h => hlkS.out wx h (m - 1) hk
          have hu3 := hst.out (m - 1) hk
          rw [hm1] at hu1 hu2 hu3
          obtain ⟨u, hu⟩ : ∃ u, r0[m - 1] = u := ⟨_, rfl⟩
          rw [hu] at hu1 hu2 hu3
          obtain ⟨B, hBB⟩ : ∃ B, lstW b (r0.take (m - 1)) = B := ⟨_, rfl⟩
          rw [hBB] at hG hu3
          have hc1 := Lib.hid (fun z : Later (fun _ => False) wr => hu1 z.val (hb.trans (z.mod.below hb.size (fun _ h => h.elim))))
          have hc2 := Lib.hid (fun z : Later (fun _ => False) wr => (show (loadVar 3 ⟨g, 2, none⟩).run Tryz.prog z.val = .ok (.int .i64 B.2.2) z.val from run_i64R ((hG.mod z.mod (fun h => h)).cell (i := 2) (v := .int .i64 B.2.2) rfl)))
          have hnx := Lib.hid (fun z : Later (fun _ => False) wr => (⟨hG.mod z.mod (fun h => h), hb.trans (z.mod.below hb.size (fun _ h => h.elim))⟩ : Blk z.val g (tmV B).toArray 157 ∧ Below w2.heap.size w2 z.val))
          replace hu1 := Lib.hid hu1
          replace hu2 := Lib.hid hu2
          replace hu3 := Lib.hid hu3
          clear hu hBB hk hm1 hG hb
          go_upto_region 10 with fail
          refine wp_region_later (w0 := wr) (S := fun _ => False) (Mod.refl _ _) (by kernel_rfl) (by kernel_rfl) ?_
          go_big_quiet_step (fail)
          go_big_quiet_step (fail)
          refine wpQuiet_v rfl (.pointer (some (a.add (m * 3)))) (by rintro _ ⟨z, rfl⟩; exact run_ixWyR (k := m) rfl rfl rfl hlt1) ?_
          simp only [Act.put, List.setIfInBounds_toArray, List.set_cons_succ, List.set_cons_zero]
          go_big_quiet_step (fail)
          refine wpQuiet_v rfl (.int .i64 u.2.2) (by rintro _ ⟨z, rfl⟩; exact run_load_v rfl rfl (hc1.out z)) ?_
          simp only [Act.put, List.setIfInBounds_toArray, List.set_cons_succ, List.set_cons_zero]
          go_big_quiet_step (fail)
          refine wpQuiet_v rfl (.int .i64 B.2.2) (by rintro _ ⟨z, rfl⟩; exact run_load_v rfl rfl (hc2.out z)) ?_
          simp only [Act.put, List.setIfInBounds_toArray, List.set_cons_succ, List.set_cons_zero]
          go_big_quiet_step (fail)
          refine wpQuiet_nil ?_
          rintro _ ⟨z, rfl⟩
          obtain ⟨hG, hb⟩ := hnx.out z
          replace hG := Lib.hid hG
          replace hb := Lib.hid hb
          generalize z.val = w4 at *
          clear hc1 hc2 hnx hu1
          by_cases hlt2 : u.2.2 < B.2.2
          · have hu4 := hu3.out
            rw [if_pos hlt2] at hu4
            have hd1 : decide (u.2.2 < B.2.2) = true := decide_eq_true hlt2
            have hl5 := Lib.hid (hu2.out w4 hb.out)
            replace hu4 := Lib.hid hu4
            clear hu3
            go_wp2_with (first | (refine wpList_v rfl (.pointer (some (a.add (m * 3)))) (run_ixWyR (k := m) rfl rfl rfl hlt1) ?_) | (refine wpList_load_v rfl 157 _ rfl (a.add (m * 3)) rfl _ hl5.out ?_) |
              (refine wpList_store_row rfl 157 _ _ rfl rfl g rfl _ (tmV u).toArray _ hG.out rfl rfl (tm_one _) (by kernel_rfl) ?_; intro w5 hB5 hm5))
            have hb5 := Lib.hid (hb.out.trans (hm5.below hb.out.size (fun k (hk : k = g) => by have := hg.out; omega)))
            replace hB5 := Lib.hid hB5
            go_roundw
            case rel => exact ⟨m + 1, by omega, by simp, by rw [Nat.add_sub_cancel, hu4.out]; exact hB5.out, hb5.out⟩
            case measure => simp [intOf]; omega
          · have hu4 := hu3.out
            rw [if_neg hlt2] at hu4
            have hd1 : decide (u.2.2 < B.2.2) = false := decide_eq_false hlt2
            replace hu4 := Lib.hid hu4
            clear hu3
            go_wp2_with fail
            go_roundw
            case rel => exact ⟨m + 1, by omega, by simp, by rw [Nat.add_sub_cancel, hu4.out]; exact hG.out, hb.out⟩
            case measure => simp [intOf]; omega
        · obtain rfl : m = n := by omega
          rw [hfin.out] at hG
          have hlB := Lib.hid (run_load_row' (P := Tryz.prog) wr g 157 _ 157 _ hG Tryz.underlying157 rfl (by kernel_rfl))
          have HR3 := Lib.hid (HR.out.mod ((Mod.refl (fun _ => False) _).after hb) (fun h => h))
          have Hb3 := Lib.hid (Hb.out.trans (hb.mono Hb.out.size))
          clear hG hb
          go_wp2_with (first | (refine wpList_load_v rfl 157 _ rfl ⟨g, 0, none⟩ rfl _ hlB.out ?_) |
            (refine wpList_store_row rfl 157 _ _ rfl rfl (w.heap.size + 1) rfl _ (tmV (lstW b r0)).toArray _ HR3.out rfl rfl (tm_one _) (by kernel_rfl) ?_; intro w5 hB5 hm5))
          have hb5 := Hb3.out.trans (hm5.below Hb3.out.size (fun k (hk : k = w.heap.size + 1) => by omega))
          exact bodyPost_ret (res_ctC Tryz.results90 rfl (run_load_row' (P := Tryz.prog) w5 _ 157 _ 157 _ hB5 Tryz.underlying157 rfl (by kernel_rfl))) rfl ⟨rfl, hb5⟩
  · have hX2 := hX.out
    rw [if_pos h0] at hX2
    subst hX2
    have d1 : (E == 0) = false := beq_eq_false_iff_ne.2 h0
    clear hX HE
    go_wp2_with (first | (refine wpList_build_v rfl 157 rfl _ (run_bwzR _) ?_) |
      (refine wpList_store_row rfl 157 _ _ rfl rfl (w.heap.size + 1) rfl _ (tmV (0, 0, 0)).toArray _ HR.out rfl rfl (tm_one _) (by kernel_rfl) ?_; intro w5 hB5 hm5))
    have hb5 := Hb.out.trans (hm5.below Hb.out.size (fun k (hk : k = w.heap.size + 1) => by omega))
    exact bodyPost_ret (res_ctC Tryz.results90 rfl (run_load_row' (P := Tryz.prog) w5 _ 157 _ 157 _ hB5 Tryz.underlying157 rfl (by kernel_rfl))) rfl ⟨rfl, hb5⟩
/-- the document's Put, where Best has a way -/
def R12Post (w : World) (M : Rou2) (R : Int) (e : Ending) (w' : World) : Prop :=
  Below w.heap.size w w' ∧ ∃ q d, e = .returned (.tuple #[.slice q M.length d, .int .i64 R, .int .i64 0]) ∧ (M.length ≤ d ∧ d ≤ 9223372036854775807) ∧ Els w' q 2 (M.map stV) ∧ (∀ a, q = some a → w.heap.size ≤ a.block)
set_option maxHeartbeats 4000000 in
set_option maxRecDepth 100000 in
theorem rcput_calls {v : Ve} {l : Rou2} {t : List Rq} {r : Nat} (hR : RightV v l t) (hr : r < t.length) (hn : ∀ s ∈ l, s.1 ≠ (r : Int)) (h0 : (bestV v l t r).2 = 0) (p p' : Option Addr) (c c' : Nat) (w : World) (hL : Els w p 2 (l.map stV)) (hc : l.length ≤ c ∧ c ≤ 9223372036854775807) (hT : Els w p' 10 (t.map rqV)) :
    Calls Tryz.prog 88 #[.agg (veR v).toArray, .slice p l.length c, .slice p' t.length c', .int .i64 (r : Int)] w (R12Post w (cputV v l t r).1 (cputV v l t r).2.1) := by
  have ha := fun wx (h : Below w.heap.size w wx) => rbest12_calls hR hr hn p p' c c' wx (hL.below h) hc (hT.below h)
  rw [(rbst_is hR (by omega : (0 : Int) ≤ (r : Int) ∧ (r : Int) < t.length) hn).2 h0] at ha
  have hwi := fun wx (h : Below w.heap.size w wx) i j => rwith_new p c l (r : Int) i j wx (hL.below h)
  have hX : cputV v l t r = ((withP l r (bestV v l t r).1.1 (bestV v l t r).1.2.1).getD [], (bestV v l t r).1.2.2, 0) := by
    unfold cputV cputP
    exact if_neg (fun h => h h0)
  rw [hX]
  clear hX
  obtain ⟨I, J, R, E, hA⟩ : ∃ I J R E, bestV v l t r = ((I, J, R), E) := ⟨_, _, _, _, rfl⟩
  rw [hA] at ha h0 ⊢
  dsimp only at ha h0 ⊢
  obtain rfl : E = 0 := h0
  have hwj := fun wx h => hwi wx h I J
  clear hwi
  unfold WiPostN at hwj
  generalize (withP l r I J).getD [] = M at hwj ⊢
  generalize (withP l r I J).isSome = so at hwj
  obtain ⟨V, hV⟩ : ∃ V : Array Value, (veR v).toArray = V := ⟨_, rfl⟩
  have hsV : V.size = 5 := by rw [← hV]; rfl
  have hlv := Lib.hid (fun wx (h : Blk wx w.heap.size V 53) => run_load_row' (P := Tryz.prog) wx w.heap.size 53 V 53 _ h Tryz.underlying53 rfl (by rw [hsV]; kernel_rfl))
  rw [hV] at ha ⊢
  obtain ⟨ln, hln⟩ : ∃ ln, l.length = ln := ⟨_, rfl⟩
  obtain ⟨T, hTT⟩ : ∃ T, t.length = T := ⟨_, rfl⟩
  rw [hln] at hwj
  rw [hln, hTT] at ha ⊢
  obtain ⟨mn, hmn⟩ : ∃ mn, M.length = mn := ⟨_, rfl⟩
  unfold R12Post
  rw [hmn] at hwj ⊢
  replace ha := Lib.hid ha
  replace hwj := Lib.hid hwj
  clear hV hsV hA hL hT hln hTT hR hr hn hc hmn
  go_enter Tryz.func88, Tryz.ntmps88
  go_upto_region 1 with fail
  refine wp_world' (fun wx => Blk wx w.heap.size V 53 ∧ Below w.heap.size w wx) ⟨Blk.new _ _ _, new_below _ _⟩ ?_
  rintro w1 ⟨hB, hb⟩
  have hl1 := Lib.hid (hlv.out _ hB)
  have ha1 := Lib.hid (ha.out _ hb)
  clear hB
  go_wp2_with (refine wpList_load_v rfl 53 _ rfl ⟨w.heap.size, 0, none⟩ rfl _ hl1.out ?_)
  refine ha1.out.mono ?_
  rintro e w2 ⟨rfl, hb2⟩
  have hb3 := hb.trans (hb2.mono hb.size)
  have hpre := Lib.hid (show Blk (w2.alloc (.cells (tmV (I, J, R)).toArray 157)) w2.heap.size (tmV (I, J, R)).toArray 157 ∧ Below w.heap.size w (w2.alloc (.cells (tmV (I, J, R)).toArray 157)) from ⟨Blk.new _ _ _, hb3.alloc hb3.size _⟩)
  have hsz := hb3.size
  clear hl1 ha1 hlv ha hb hb2 hb3
  go_upto_region 2 with (first | (refine wpList_store_new rfl 157 _ _ rfl rfl rfl _ (tmV (I, J, R)).toArray _ rfl rfl (tm_one _) (by kernel_rfl) ?_))
  generalize hg : w2.heap.size = g at *
  refine wp_world' (fun wx => Blk wx g (tmV (I, J, R)).toArray 157 ∧ Below w.heap.size w wx) hpre.out ?_
  clear hpre hg
  rintro w3 ⟨hG, hb⟩
  have k0 := hG.cell (i := 0) (v := .int .i64 I) rfl
  have k1 := hG.cell (i := 1) (v := .int .i64 J) rfl
  have hw5 := Lib.hid (hwj.out w3 hb)
  replace hG := Lib.hid hG
  replace hb := Lib.hid hb
  clear hwj
  go_wp2_with fail
  refine hw5.out.mono ?_
  rintro e w5 ⟨⟨q, d, rfl, hd, hE, hq⟩, hb5⟩
  have k2 := (hG.out.mod ((Mod.refl (fun _ => False) _).after hb5) (fun h => h)).cell (i := 2) (v := .int .i64 R) rfl
  have f1 := Lib.hid (hb.out.trans (hb5.mono hb.out.size))
  have f2 := Lib.hid (fun a (ha : q = some a) => Nat.le_trans hb.out.size (hq a ha))
  replace hE := Lib.hid hE
  clear hw5 hG hb hq hb5 k0 k1
  go_upto_region 5 with fail
  go_quiet (fail)
  go_wp2
  go_ret3
  exact ⟨below_drewN f1.out _, q, d, rfl, hd, hE.out.below (below_drewN (Below.refl _ _) _), f2.out⟩
end Go.Proofs.YtdmnoogppmckaaaGreat
namespace Go.Proofs.YtdmnoogppmckaaaGreat
open Go.RowKit

section
variable {ρ : Operand → Value} {o : Oper} {w : World} {x y z u : Operand}
theorem run_allocWR (ho : o.op = .alloc 157) : (execOp ρ o).run Tryz.prog w = .ok (.value (.pointer (some ⟨w.heap.size, 0, none⟩))) (w.alloc (.cells (tmV (0, 0, 0)).toArray 157)) := by
  unfold execOp
  simp only [ho]
  kernel_rfl
theorem run_callB12 {a b c d : Value} (ho : o.op = .call { callee := .value (.func 90), args := #[x, y, z, u], argTypes := #[53, 47, 23, 3] }) (hx : ρ x = a) (hy : ρ y = b) (hz : ρ z = c) (hu : ρ u = d)
    (hf : ρ (.func 90) = .func (.func 90) #[] #[] := by rfl) : (execOp ρ o).run Tryz.prog w = .ok (.enter 90 #[a, b, c, d]) w := by
  unfold execOp
  simp only [ho]
  go_simp
theorem run_callC12 {a b c d : Value} (ho : o.op = .call { callee := .value (.func 88), args := #[x, y, z, u], argTypes := #[53, 47, 23, 3] }) (hx : ρ x = a) (hy : ρ y = b) (hz : ρ z = c) (hu : ρ u = d)
    (hf : ρ (.func 88) = .func (.func 88) #[] #[] := by rfl) : (execOp ρ o).run Tryz.prog w = .ok (.enter 88 #[a, b, c, d]) w := by
  unfold execOp
  simp only [ho]
  go_simp
theorem run_callW6 {a b : Value} (ho : o.op = .call { callee := .value (.func 89), args := #[x, y], argTypes := #[47, 3] }) (hx : ρ x = a) (hy : ρ y = b)
    (hf : ρ (.func 89) = .func (.func 89) #[] #[] := by rfl) : (execOp ρ o).run Tryz.prog w = .ok (.enter 89 #[a, b]) w := by
  unfold execOp
  simp only [ho]
  go_simp
theorem run_ixRs0 {g n c k : Nat} (ho : o.op = .indexAddr 45 x y) (hx : ρ x = .slice (some ⟨g, 0, none⟩) n c) (hy : ρ y = .int .i64 k) (hk : k < n) : (execOp ρ o).run Tryz.prog w = .ok (.value (.pointer (some ⟨g, k, none⟩))) w := by
  have := run_ixRs (w := w) ho hx hy hk
  rwa [addr0P] at this
end
theorem PlnOk.row {fl : List Ve} {rows : List Rou2} {t : List Rq} (h : PlnOk fl rows t) (i : Nat) : (rows.getD i []).length ≤ 16 := by
  by_cases hi : i < fl.length
  · exact (h.right i hi).2.2.1
  · rw [List.getD_eq_getElem?_getD, List.getElem?_eq_none (by rw [h.len]; omega)]
    simp
theorem rsV_set (rows : List Rou2) (qs : List (Option Addr × Nat)) {i : Nat} (hr : i < rows.length) (hq : i < qs.length) (l : Rou2) (q : Option Addr) (d : Nat) (hi' : i < (rsV rows qs rows.length).length) :
    (rsV rows qs rows.length).set i ((rsV rows qs rows.length)[i].set 0 (.slice q l.length d)) = rsV (rows.set i l) (qs.set i (q, d)) (rows.set i l).length := by
  apply List.ext_getElem?
  intro j
  have e1 : (rsV rows qs rows.length)[i].set 0 (.slice q l.length d) = [.slice q l.length d] := by simp [rsV]
  rw [e1]
  by_cases hj : j < rows.length
  · have e2 : (rsV (rows.set i l) (qs.set i (q, d)) (rows.set i l).length)[j]? = some [.slice ((qs.set i (q, d)).getD j (none, 0)).1 ((rows.set i l).getD j []).length ((qs.set i (q, d)).getD j (none, 0)).2] := by simp [rsV, hj]
    rw [e2, getD_setS, getD_setS]
    by_cases hij : i = j
    · subst hij
      rw [List.getElem?_set_self hi', if_pos ⟨rfl, hq⟩, if_pos ⟨rfl, hr⟩]
    · rw [List.getElem?_set_ne hij, if_neg (fun x => hij x.1), if_neg (fun x => hij x.1)]
      simp [rsV, hj]
  · rw [List.getElem?_eq_none (by rw [List.length_set, rsV_size]; omega), List.getElem?_eq_none (by rw [rsV_size, List.length_set]; omega)]
/-- the document's plan of which one route was turned -/
theorem RplIn.next {w w' : World} {F : Nat → Prop} {b gR : Nat} {fl : List Ve} {rows : List Rou2} {t : List Rq} {qF qT : Option Addr} {dF dT : Nat} {qs : List (Option Addr × Nat)} (h : RplIn w F b gR fl rows t qF dF qT dT qs)
    (hm : Mod (· = gR) w w') {i : Nat} {l : Rou2} {q : Option Addr} {d : Nat} (hi : i < fl.length) (hR : Els w' (some ⟨gR, 0, none⟩) 1 (rsV (rows.set i l) (qs.set i (q, d)) (rows.set i l).length)) (htb : ∃ C, Blk w' gR C 47)
    (hrow : Els w' q 2 (l.map stV)) (hcap : l.length ≤ d ∧ d ≤ 9223372036854775807) (hf : l ≠ [] → ∀ a, q = some a → w.heap.size ≤ a.block ∧ a.block < w'.heap.size) :
    RplIn w' (fun k => F k ∨ (w.heap.size ≤ k ∧ k < w'.heap.size)) b gR fl (rows.set i l) t qF dF qT dT (qs.set i (q, d)) := by
  have hR1 := h.lt gR h.fR
  have hir : i < rows.length := by rw [h.len]; exact hi
  have hiq : i < qs.length := by rw [h.lenq]; exact hi
  refine ⟨h.box.mod hm h.ne, els_modP h.fleet hm (fun a ha hR s => (h.flB a ha (fun e => hR (by rw [e]; rfl))).2 s), els_modP h.req hm (fun a ha hR s => (h.reqB a ha (fun e => hR (by rw [e]; rfl))).2 s), htb, hR, fun j => ?_, fun j => ?_, fun j a ha hne => ?_,
    fun a ha hne => ⟨.inl (h.flB a ha hne).1, (h.flB a ha hne).2⟩, fun a ha hne => ⟨.inl (h.reqB a ha hne).1, (h.reqB a ha hne).2⟩, .inl h.fb, .inl h.fR, h.ne, fun k hk => ?_, by rw [List.length_set]; exact h.len, by rw [List.length_set]; exact h.lenq⟩
  · rw [getD_setS, getD_setS]
    by_cases hij : i = j
    · subst hij
      rw [if_pos ⟨rfl, hiq⟩, if_pos ⟨rfl, hir⟩]
      exact hrow
    · rw [if_neg (fun x => hij x.1), if_neg (fun x => hij x.1)]
      exact els_modP (h.row j) hm (fun a ha hR s => (h.rowB j a ha (fun e => hR (by rw [e]; rfl))).2 s)
  · rw [getD_setS, getD_setS]
    by_cases hij : i = j
    · subst hij
      rw [if_pos ⟨rfl, hir⟩, if_pos ⟨rfl, hiq⟩]
      exact hcap
    · rw [if_neg (fun x => hij x.1), if_neg (fun x => hij x.1)]
      exact h.cap j
  · rw [getD_setS] at ha hne
    by_cases hij : i = j
    · subst hij
      rw [if_pos ⟨rfl, hiq⟩] at ha
      rw [if_pos ⟨rfl, hir⟩] at hne
      have := hf hne a ha
      exact ⟨.inr this, by omega⟩
    · rw [if_neg (fun x => hij x.1)] at ha
      rw [if_neg (fun x => hij x.1)] at hne
      have := h.rowB j a ha hne
      exact ⟨.inl this.1, this.2⟩
  · rcases hk with hk | hk
    · exact Nat.lt_of_lt_of_le (h.lt k hk) hm.size
    · exact hk.2
theorem RplAt.grow {w : World} {F F' : Nat → Prop} {b gR : Nat} {fl : List Ve} {rows : List Rou2} {t : List Rq} (h : RplAt w F b gR fl rows t) (hF : ∀ k, F k → F' k) (hlt : ∀ k, F' k → k < w.heap.size) : RplAt w F' b gR fl rows t := by
  obtain ⟨qF, dF, qT, dT, qs, h⟩ := h
  exact ⟨qF, dF, qT, dT, qs, h.box, h.fleet, h.req, h.tb, h.rws, h.row, h.cap, fun i a ha hr => by have := h.rowB i a ha hr; exact ⟨hF _ this.1, this.2⟩, fun a ha hr => by have := h.flB a ha hr; exact ⟨hF _ this.1, this.2⟩,
    fun a ha hr => by have := h.reqB a ha hr; exact ⟨hF _ this.1, this.2⟩, hF _ h.fb, hF _ h.fR, h.ne, hlt, h.len, h.lenq⟩
/-- the first of the cheapest vehicles, as the document's loop keeps it -/
theorem prc_loop {fl : List Ve} {rows : List Rou2} {t : List Rq} (hP : PlnOk fl rows t) {r : Nat} (hr : r < t.length) (hw : whereP rows r < 0) :
    ∃ bK rK : Nat → Int, (bK 0 = -1 ∧ rK 0 = 0) ∧ (∀ k, k < fl.length → ((rbstP (fl.getD k ve0) (rows.getD k []) t r).2 ≠ 0 → bK (k + 1) = bK k ∧ rK (k + 1) = rK k) ∧
      ((rbstP (fl.getD k ve0) (rows.getD k []) t r).2 = 0 → ((bK k < 0 ∨ (rbstP (fl.getD k ve0) (rows.getD k []) t r).1.2.2 < rK k) → bK (k + 1) = (k : Int) ∧ rK (k + 1) = (rbstP (fl.getD k ve0) (rows.getD k []) t r).1.2.2) ∧
        (¬ bK k < 0 ∧ ¬ (rbstP (fl.getD k ve0) (rows.getD k []) t r).1.2.2 < rK k → bK (k + 1) = bK k ∧ rK (k + 1) = rK k))) ∧
      prcP fl rows t r = if bK fl.length < 0 then ((0, 0, 12) : Int × Int × Int) else (bK fl.length, rK fl.length, 0) := by
  have e1 : ∀ k, (bestV (fl.getD k ve0) (rows.getD k []) t r).2 ≠ 0 → prcK fl rows t r (k + 1) = prcK fl rows t r k := fun k h1 => if_pos h1
  have e2 : ∀ k, (bestV (fl.getD k ve0) (rows.getD k []) t r).2 = 0 → prcK fl rows t r (k + 1) = match prcK fl rows t r k with
      | none => some (k, (bestV (fl.getD k ve0) (rows.getD k []) t r).1.2.2)
      | some p => if p.2 ≤ (bestV (fl.getD k ve0) (rows.getD k []) t r).1.2.2 then some p else some (k, (bestV (fl.getD k ve0) (rows.getD k []) t r).1.2.2) := fun k h1 => if_neg (by omega)
  refine ⟨fun k => ((prcK fl rows t r k).map fun p => (p.1 : Int)).getD (-1), fun k => ((prcK fl rows t r k).map fun p => p.2).getD 0, ⟨rfl, rfl⟩, fun k hk => ?_, ?_⟩
  · obtain ⟨b1, b2⟩ := rbst_is (hP.right k hk) (by omega : (0 : Int) ≤ (r : Int) ∧ (r : Int) < t.length) (fun s hs => where_getD hw hs)
    refine ⟨fun h1 => ?_, fun h1 => ?_⟩
    · dsimp only
      rw [e1 k (fun h => h1 (b1.2 h))]
      exact ⟨rfl, rfl⟩
    · have h2 := b1.1 h1
      rw [b2 h2]
      dsimp only
      rw [e2 k h2]
      generalize (bestV (fl.getD k ve0) (rows.getD k []) t r).1.2.2 = u
      cases prcK fl rows t r k with
      | none => exact ⟨fun _ => ⟨rfl, rfl⟩, fun h => absurd (by show (-1 : Int) < 0; omega) h.1⟩
      | some p =>
        have hp0 : ¬ (p.1 : Int) < 0 := by omega
        refine ⟨fun h => ?_, fun h => ?_⟩
        · have h3 : ¬ p.2 ≤ u := by
            rcases h with h | h
            · exact absurd h hp0
            · have : u < p.2 := h
              omega
          dsimp only
          rw [if_neg h3]
          exact ⟨rfl, rfl⟩
        · have h3 : p.2 ≤ u := by
            have : ¬ u < p.2 := h.2
            omega
          dsimp only
          rw [if_pos h3]
          exact ⟨rfl, rfl⟩
  · unfold prcP
    rw [if_neg (by omega), if_neg (by omega)]
    have key : ∀ o : Option (Nat × Int), (match o with | none => ((0 : Int), (0 : Int), (12 : Int)) | some p => ((p.1 : Int), p.2, 0)) = if (o.map fun p => (p.1 : Int)).getD (-1) < 0 then (0, 0, 12) else ((o.map fun p => (p.1 : Int)).getD (-1), (o.map fun p => p.2).getD 0, 0) := by
      intro o
      cases o with
      | none => rfl
      | some p =>
        have hp0 : ¬ (p.1 : Int) < 0 := by omega
        show _ = if (p.1 : Int) < 0 then _ else _
        rw [if_neg hp0]
        rfl
    exact key _
set_option maxHeartbeats 4000000 in
set_option maxRecDepth 100000 in
theorem rprc_bad {w : World} {F : Nat → Prop} {b gR : Nat} {fl : List Ve} {rows : List Rou2} {t : List Rq} (hP : PlnOk fl rows t) (h : RplAt w F b gR fl rows t) (req : Int) (hb : (req < 0 ∨ (t.length : Int) ≤ req) ∨ 0 ≤ whereP rows req) :
    Calls Tryz.prog 57 #[.pointer (some ⟨b, 0, none⟩), .int .i64 req] w fun e w' => e = .returned (.tuple #[.int .i64 (prcP fl rows t req).1, .int .i64 (prcP fl rows t req).2.1, .int .i64 (prcP fl rows t req).2.2]) ∧ Below w.heap.size w w' := by
  have hwh := Lib.hid (rwhere_calls h hP.many.2 (fun i => Nat.le_trans (hP.row i) (by omega)) req)
  have hX1 : req < 0 ∨ (t.length : Int) ≤ req → prcP fl rows t req = (0, 0, 8) := fun c => if_pos c
  have hX2 : ¬ (req < 0 ∨ (t.length : Int) ≤ req) → 0 ≤ whereP rows req → prcP fl rows t req = (0, 0, 13) := fun c1 c2 => by
    unfold prcP
    rw [if_neg c1, if_pos c2]
  obtain ⟨qF, dF, qT, dT, qs, h⟩ := h
  have k1 := h.box.cell (i := 1) rfl
  generalize prcP fl rows t req = X at hX1 hX2 ⊢
  generalize whereP rows req = wh at *
  replace hX1 := Lib.hid hX1
  replace hX2 := Lib.hid hX2
  generalize t.length = T at *
  clear h hP
  by_cases c1 : req < 0
  · obtain rfl := hX1.out (.inl c1)
    clear hX1 hX2 hwh k1 hb
    go_enter Tryz.func57, Tryz.ntmps57
    go_wp2_with fail
    go_ret3
    exact ⟨rfl, Below.refl _ _⟩
  by_cases c2 : (T : Int) ≤ req
  · obtain rfl := hX1.out (.inr c2)
    clear hX1 hX2 hwh hb
    go_enter Tryz.func57, Tryz.ntmps57
    go_wp2_with fail
    go_ret3
    exact ⟨rfl, Below.refl _ _⟩
  have c3 : 0 ≤ wh := by omega
  obtain rfl := hX2.out (by omega) c3
  clear hX1 hX2 hb
  go_enter Tryz.func57, Tryz.ntmps57
  go_wp2_with fail
  refine hwh.out.mono ?_
  rintro e w1 ⟨rfl, rfl⟩
  clear hwh
  go_wp2_with fail
  go_ret3
  exact ⟨rfl, Below.refl _ _⟩
set_option maxHeartbeats 8000000 in
set_option maxRecDepth 100000 in
theorem rprc_good {w : World} {F : Nat → Prop} {b gR : Nat} {fl : List Ve} {rows : List Rou2} {t : List Rq} (hP : PlnOk fl rows t) (h : RplAt w F b gR fl rows t) {r : Nat} (hr : r < t.length) (hw : whereP rows r < 0) :
    Calls Tryz.prog 57 #[.pointer (some ⟨b, 0, none⟩), .int .i64 (r : Int)] w fun e w' => e = .returned (.tuple #[.int .i64 (prcP fl rows t r).1, .int .i64 (prcP fl rows t r).2.1, .int .i64 (prcP fl rows t r).2.2]) ∧ Below w.heap.size w w' := by
  have hwh := Lib.hid (rwhere_calls h hP.many.2 (fun i => Nat.le_trans (hP.row i) (by omega)) (r : Int))
  obtain ⟨bK, rK, ⟨hK0, hK1⟩, hKs, hKe⟩ := prc_loop hP hr hw
  generalize prcP fl rows t r = X at hKe ⊢
  have hne := fun i s (hs : s ∈ rows.getD i []) => where_getD hw hs
  obtain ⟨qF, dF, qT, dT, qs, h⟩ := h
  have hfl := hP.many
  have hTb : t.length ≤ 140737488351232 := by simpa using h.req.big
  have hbox := h.box
  have hrw := h.rws
  obtain ⟨aR, haR⟩ : ∃ aR : Addr, (⟨gR, 0, none⟩ : Addr) = aR := ⟨_, rfl⟩
  rw [haR] at hbox hrw
  obtain ⟨aV, eV⟩ := h.fleet.some_of (k := 0) (by rw [List.length_map]; omega)
  have hfe := h.fleet
  rw [eV] at hbox hfe
  have hk := Lib.hid (fun wx (hm : Mod (fun _ => False) w wx) (i : Nat) (v : Value) (hv : (#[.slice (some aV) fl.length dF, .slice qT t.length dT, .slice (some aR) fl.length fl.length] : Array Value)[i]? = some v) => (hbox.mod hm (fun h => h)).cell (i := i) hv)
  have hbs := Lib.hid (fun wx (hm : Mod (fun _ => False) w wx) (i : Nat) (hi : i < fl.length) =>
    rbest12_calls (hP.right i hi) hr (hne i) (qs.getD i (none, 0)).1 qT (qs.getD i (none, 0)).2 dT wx (els_modP (h.row i) hm (fun _ _ _ h => h)) (h.cap i) (els_modP h.req hm (fun _ _ _ h => h)))
  have hlv := Lib.hid (fun wx (hm : Mod (fun _ => False) w wx) (i : Nat) (hi : i < fl.length) => (show (loadVar 53 (aV.add (i * 5))).run Tryz.prog wx = .ok (.agg (veR (fl.getD i ve0)).toArray) wx from by
    have := (els_modP hfe hm (fun _ _ _ h => h)).load (P := Tryz.prog) (a := aV) rfl (k := i) (by simpa using hi) (ty := 53) Tryz.underlying53 rfl (by kernel_rfl)
    rw [List.getElem_map] at this
    rw [List.getD_eq_getElem?_getD, List.getElem?_eq_getElem hi]
    exact this))
  have hcr := Lib.hid (fun wx (hm : Mod (fun _ => False) w wx) (i : Nat) (hi : i < rows.length) => run_cellStR (rs_cellR (els_modP hrw hm (fun _ _ _ h => h)) hi))
  have hlen := h.len
  have k1 := hbox.cell (i := 1) rfl
  obtain ⟨n, hn⟩ : ∃ n, fl.length = n := ⟨_, rfl⟩
  obtain ⟨T, hT⟩ : ∃ T, t.length = T := ⟨_, rfl⟩
  rw [hn] at hk hlen hfl hlv hbs hKs hKe
  rw [hT] at hk hbs hr k1 hTb
  rw [hlen] at hcr
  have hrI : (r : Int) < (T : Int) := by omega
  have hr0 : (0 : Int) ≤ (r : Int) := by omega
  have hTr : ¬ T ≤ r := by omega
  have hTr2 : ¬ (r : Int) < 0 := by omega
  generalize whereP rows r = wh at *
  have hw2 : ¬ 0 ≤ wh := by omega
  replace hKs := Lib.hid hKs
  replace hKe := Lib.hid hKe
  replace hK0 := Lib.hid hK0
  replace hK1 := Lib.hid hK1
  clear h haR eV hbox hrw hfe hn hT hlen hP hne
  go_enter Tryz.func57, Tryz.ntmps57
  go_wp2_with fail
  refine hwh.out.mono ?_
  rintro e w1 ⟨rfl, rfl⟩
  clear hwh k1
  go_wp2_with fail
  go_loopw [7, 8, 9] (fun s7 s8 s9 wx => ∃ k : Nat, k ≤ n ∧ s9 = .int .i64 k ∧ s7 = .int .i64 (bK k) ∧ s8 = .int .i64 (rK k) ∧ Mod (fun _ => False) w wx) (fun _ _ s9 _ => n - (intOf s9).toNat)
  case atStart => exact ⟨0, Nat.zero_le _, rfl, by rw [hK0.out], by rw [hK1.out], Mod.refl _ _⟩
  case round =>
    obtain ⟨i, hi, rfl, rfl, rfl, hm⟩ := hrel
    have k0 := hk.out wr hm 0 _ rfl
    by_cases hlt : i < n
    · have hltI : (i : Int) < (n : Int) := by omega
      have hi0 : (0 : Int) ≤ (i : Int) := by omega
      have s1 : IntKind.i64.wrap ((i : Int) + 1) = (i : Int) + 1 := IntWalk.i64_in _ (by omega)
      have hB0 := Lib.hid (fun wx (h : Mod (fun _ => False) wr wx) => run_cellVR (hk.out wx (hm.trans h) 0 _ rfl))
      have hB1 := Lib.hid (fun wx (h : Mod (fun _ => False) wr wx) => run_cellRq (hk.out wx (hm.trans h) 1 _ rfl))
      have hB2 := Lib.hid (fun wx (h : Mod (fun _ => False) wr wx) => run_cellRR (hk.out wx (hm.trans h) 2 _ rfl))
      have hbest := Lib.hid (fun wx (h : Mod (fun _ => False) wr wx) => hbs.out wx (hm.trans h) i hlt)
      have hVi := Lib.hid (fun wx (h : Mod (fun _ => False) wr wx) => hlv.out wx (hm.trans h) i hlt)
      have hRi := Lib.hid (fun wx (h : Mod (fun _ => False) wr wx) => hcr.out wx (hm.trans h) i hlt)
      have hk0 := Lib.hid (fun wx (h : Mod (fun _ => False) wr wx) => hk.out wx (hm.trans h) 0 _ rfl)
      have hst := hKs.out i hlt
      obtain ⟨Bw, be, hBe⟩ : ∃ Bw be, rbstP (fl.getD i ve0) (rows.getD i []) t r = (Bw, be) := ⟨_, _, rfl⟩
      rw [hBe] at hbest hst
      dsimp only at hbest hst
      generalize (veR (fl.getD i ve0)).toArray = Y at hVi hbest
      generalize (qs.getD i (none, 0)).1 = qi at *
      generalize (qs.getD i (none, 0)).2 = di at *
      generalize (rows.getD i []).length = ln at *
      replace hm := Lib.hid hm
      replace hst := Lib.hid hst
      clear hBe
      go_upto_region 9 with fail
      refine wp_region_rove (X := Nat) 0 (fun x => [(37, .pointer (some ⟨b, 0, none⟩)), (38, .pointer (some ⟨b, 0, none⟩)), (39, .pointer (some ⟨b, 0, none⟩)), (40, .slice (some aV) n dF), (41, .int .i64 (i : Int)), (42, .pointer (some (aV.add (i * 5)))), (43, .agg Y), (44, .pointer (some ⟨b, 0, none⟩)), (45, .pointer (some ⟨b, 0, none⟩)), (46, .pointer (some ⟨b, 2, none⟩)), (47, .slice (some aR) n n), (48, .int .i64 (i : Int)), (49, .pointer (some (aR.add i))), (50, .slice qi ln di), (51, .pointer (some ⟨b, 0, none⟩)), (52, .pointer (some ⟨b, 0, none⟩)), (53, .pointer (some ⟨b, 1, none⟩)), (54, .slice qT T dT), (55, .int .i64 (r : Int)), (56, .tuple #[.agg (tmV Bw).toArray, .int .i64 be]), (36, .tuple #[.agg (tmV Bw).toArray, .int .i64 be]), (57, .agg (tmV Bw).toArray), (58, .int .i64 be), (10, .pointer (some ⟨x, 0, none⟩)), (11, .int .i64 be)])
        (fun x d W' => ClB (tmV (0, 0, 0)).toArray (tmV Bw).toArray 157 wr x (d 23) (d 24) W') (by kernel_rfl) (by kernel_rfl) (by kernel_rfl) (by kernel_rfl) (fun x => by kernel_rfl)
        ⟨(Mod.refl _ _).drew, (fun h => by cases h)⟩ ?_ ?_
      · intro aF hAF
        have E0 : ∀ x, (aF x).eval (.tmp 0) = .pointer (some ⟨b, 0, none⟩) := by intro x; rw [hAF]; kernel_rfl
        have E9 : ∀ x, (aF x).eval (.tmp 9) = .int .i64 (i : Int) := by intro x; rw [hAF]; kernel_rfl
        have E1 : ∀ x, (aF x).eval (.tmp 1) = .int .i64 (r : Int) := by intro x; rw [hAF]; kernel_rfl
        have T37 : ∀ x, (aF x).tmps[37]? = some (.pointer (some ⟨b, 0, none⟩)) := by intro x; rw [hAF]; kernel_rfl
        have E37 : ∀ x, (aF x).eval (.tmp 37) = .pointer (some ⟨b, 0, none⟩) := by intro x; rw [hAF]; kernel_rfl
        have T38 : ∀ x, (aF x).tmps[38]? = some (.pointer (some ⟨b, 0, none⟩)) := by intro x; rw [hAF]; kernel_rfl
        have E38 : ∀ x, (aF x).eval (.tmp 38) = .pointer (some ⟨b, 0, none⟩) := by intro x; rw [hAF]; kernel_rfl
        have T39 : ∀ x, (aF x).tmps[39]? = some (.pointer (some ⟨b, 0, none⟩)) := by intro x; rw [hAF]; kernel_rfl
        have E39 : ∀ x, (aF x).eval (.tmp 39) = .pointer (some ⟨b, 0, none⟩) := by intro x; rw [hAF]; kernel_rfl
        have T40 : ∀ x, (aF x).tmps[40]? = some (.slice (some aV) n dF) := by intro x; rw [hAF]; kernel_rfl
        have E40 : ∀ x, (aF x).eval (.tmp 40) = .slice (some aV) n dF := by intro x; rw [hAF]; kernel_rfl
        have T41 : ∀ x, (aF x).tmps[41]? = some (.int .i64 (i : Int)) := by intro x; rw [hAF]; kernel_rfl
        have E41 : ∀ x, (aF x).eval (.tmp 41) = .int .i64 (i : Int) := by intro x; rw [hAF]; kernel_rfl
        have T42 : ∀ x, (aF x).tmps[42]? = some (.pointer (some (aV.add (i * 5)))) := by intro x; rw [hAF]; kernel_rfl
        have E42 : ∀ x, (aF x).eval (.tmp 42) = .pointer (some (aV.add (i * 5))) := by intro x; rw [hAF]; kernel_rfl
        have T43 : ∀ x, (aF x).tmps[43]? = some (.agg Y) := by intro x; rw [hAF]; kernel_rfl
        have E43 : ∀ x, (aF x).eval (.tmp 43) = .agg Y := by intro x; rw [hAF]; kernel_rfl
        have T44 : ∀ x, (aF x).tmps[44]? = some (.pointer (some ⟨b, 0, none⟩)) := by intro x; rw [hAF]; kernel_rfl
        have E44 : ∀ x, (aF x).eval (.tmp 44) = .pointer (some ⟨b, 0, none⟩) := by intro x; rw [hAF]; kernel_rfl
        have T45 : ∀ x, (aF x).tmps[45]? = some (.pointer (some ⟨b, 0, none⟩)) := by intro x; rw [hAF]; kernel_rfl
        have E45 : ∀ x, (aF x).eval (.tmp 45) = .pointer (some ⟨b, 0, none⟩) := by intro x; rw [hAF]; kernel_rfl
        have T46 : ∀ x, (aF x).tmps[46]? = some (.pointer (some ⟨b, 2, none⟩)) := by intro x; rw [hAF]; kernel_rfl
        have E46 : ∀ x, (aF x).eval (.tmp 46) = .pointer (some ⟨b, 2, none⟩) := by intro x; rw [hAF]; kernel_rfl
        have T47 : ∀ x, (aF x).tmps[47]? = some (.slice (some aR) n n) := by intro x; rw [hAF]; kernel_rfl
        have E47 : ∀ x, (aF x).eval (.tmp 47) = .slice (some aR) n n := by intro x; rw [hAF]; kernel_rfl
        have T48 : ∀ x, (aF x).tmps[48]? = some (.int .i64 (i : Int)) := by intro x; rw [hAF]; kernel_rfl
        have E48 : ∀ x, (aF x).eval (.tmp 48) = .int .i64 (i : Int) := by intro x; rw [hAF]; kernel_rfl
        have T49 : ∀ x, (aF x).tmps[49]? = some (.pointer (some (aR.add i))) := by intro x; rw [hAF]; kernel_rfl
        have E49 : ∀ x, (aF x).eval (.tmp 49) = .pointer (some (aR.add i)) := by intro x; rw [hAF]; kernel_rfl
        have T50 : ∀ x, (aF x).tmps[50]? = some (.slice qi ln di) := by intro x; rw [hAF]; kernel_rfl
        have E50 : ∀ x, (aF x).eval (.tmp 50) = .slice qi ln di := by intro x; rw [hAF]; kernel_rfl
        have T51 : ∀ x, (aF x).tmps[51]? = some (.pointer (some ⟨b, 0, none⟩)) := by intro x; rw [hAF]; kernel_rfl
        have E51 : ∀ x, (aF x).eval (.tmp 51) = .pointer (some ⟨b, 0, none⟩) := by intro x; rw [hAF]; kernel_rfl
        have T52 : ∀ x, (aF x).tmps[52]? = some (.pointer (some ⟨b, 0, none⟩)) := by intro x; rw [hAF]; kernel_rfl
        have E52 : ∀ x, (aF x).eval (.tmp 52) = .pointer (some ⟨b, 0, none⟩) := by intro x; rw [hAF]; kernel_rfl
        have T53 : ∀ x, (aF x).tmps[53]? = some (.pointer (some ⟨b, 1, none⟩)) := by intro x; rw [hAF]; kernel_rfl
        have E53 : ∀ x, (aF x).eval (.tmp 53) = .pointer (some ⟨b, 1, none⟩) := by intro x; rw [hAF]; kernel_rfl
        have T54 : ∀ x, (aF x).tmps[54]? = some (.slice qT T dT) := by intro x; rw [hAF]; kernel_rfl
        have E54 : ∀ x, (aF x).eval (.tmp 54) = .slice qT T dT := by intro x; rw [hAF]; kernel_rfl
        have T55 : ∀ x, (aF x).tmps[55]? = some (.int .i64 (r : Int)) := by intro x; rw [hAF]; kernel_rfl
        have E55 : ∀ x, (aF x).eval (.tmp 55) = .int .i64 (r : Int) := by intro x; rw [hAF]; kernel_rfl
        have T56 : ∀ x, (aF x).tmps[56]? = some (.tuple #[.agg (tmV Bw).toArray, .int .i64 be]) := by intro x; rw [hAF]; kernel_rfl
        have E56 : ∀ x, (aF x).eval (.tmp 56) = .tuple #[.agg (tmV Bw).toArray, .int .i64 be] := by intro x; rw [hAF]; kernel_rfl
        have T36 : ∀ x, (aF x).tmps[36]? = some (.tuple #[.agg (tmV Bw).toArray, .int .i64 be]) := by intro x; rw [hAF]; kernel_rfl
        have E36 : ∀ x, (aF x).eval (.tmp 36) = .tuple #[.agg (tmV Bw).toArray, .int .i64 be] := by intro x; rw [hAF]; kernel_rfl
        have T57 : ∀ x, (aF x).tmps[57]? = some (.agg (tmV Bw).toArray) := by intro x; rw [hAF]; kernel_rfl
        have E57 : ∀ x, (aF x).eval (.tmp 57) = .agg (tmV Bw).toArray := by intro x; rw [hAF]; kernel_rfl
        have T58 : ∀ x, (aF x).tmps[58]? = some (.int .i64 be) := by intro x; rw [hAF]; kernel_rfl
        have E58 : ∀ x, (aF x).eval (.tmp 58) = .int .i64 be := by intro x; rw [hAF]; kernel_rfl
        have T10 : ∀ x, (aF x).tmps[10]? = some (.pointer (some ⟨x, 0, none⟩)) := by intro x; rw [hAF]; kernel_rfl
        have E10 : ∀ x, (aF x).eval (.tmp 10) = .pointer (some ⟨x, 0, none⟩) := by intro x; rw [hAF]; kernel_rfl
        have T11 : ∀ x, (aF x).tmps[11]? = some (.int .i64 be) := by intro x; rw [hAF]; kernel_rfl
        have E11 : ∀ x, (aF x).eval (.tmp 11) = .int .i64 be := by intro x; rw [hAF]; kernel_rfl
        replace hAF := Lib.hid hAF
        refine ⟨?_, ?_, ?_, ?_, ?_, ?_, ?_, ?_, ?_, ?_, ?_, ?_, ?_, ?_, ?_, ?_, ?_, ?_, ?_, ?_, ?_, ?_, ?_, ?_, ?_, ?_, trivial⟩
        · exact opOk3_quiet _ (by intro x t hd _; cases hd; exact T37 x) (fun _ => rfl) fun x d w' hd hc => sv (run_mov rfl (E0 x)) hc
        · exact opOk3_quiet _ (by intro x t hd _; cases hd; exact T38 x) (fun _ => rfl) fun x d w' hd hc => sv (run_nilP rfl (E37 x)) hc
        · exact opOk3_quiet _ (by intro x t hd _; cases hd; exact T39 x) (fun _ => rfl) fun x d w' hd hc => sv (run_fldT rfl (E38 x) (fun _ => by kernel_rfl)) hc
        · exact opOk3_quiet _ (by intro x t hd _; cases hd; exact T40 x) (fun _ => rfl) fun x d w' hd hc => sv (run_load1 rfl (E39 x) (hB0.out _ hc.m)) hc
        · exact opOk3_quiet _ (by intro x t hd _; cases hd; exact T41 x) (fun _ => rfl) fun x d w' hd hc => sv (run_mov rfl (E9 x)) hc
        · exact opOk3_quiet _ (by intro x t hd _; cases hd; exact T42 x) (fun _ => rfl) fun x d w' hd hc => sv (run_ixVeR rfl (E40 x) (E41 x) hlt) hc
        · exact opOk3_quiet _ (by intro x t hd _; cases hd; exact T43 x) (fun _ => rfl) fun x d w' hd hc => sv (run_load1 rfl (E42 x) (hVi.out _ hc.m)) hc
        · exact opOk3_quiet _ (by intro x t hd _; cases hd; exact T44 x) (fun _ => rfl) fun x d w' hd hc => sv (run_mov rfl (E0 x)) hc
        · exact opOk3_quiet _ (by intro x t hd _; cases hd; exact T45 x) (fun _ => rfl) fun x d w' hd hc => sv (run_nilP rfl (E44 x)) hc
        · exact opOk3_quiet _ (by intro x t hd _; cases hd; exact T46 x) (fun _ => rfl) fun x d w' hd hc => sv (run_fldT rfl (E45 x) (fun _ => by kernel_rfl)) hc
        · exact opOk3_quiet _ (by intro x t hd _; cases hd; exact T47 x) (fun _ => rfl) fun x d w' hd hc => sv (run_load1 rfl (E46 x) (hB2.out _ hc.m)) hc
        · exact opOk3_quiet _ (by intro x t hd _; cases hd; exact T48 x) (fun _ => rfl) fun x d w' hd hc => sv (run_mov rfl (E9 x)) hc
        · exact opOk3_quiet _ (by intro x t hd _; cases hd; exact T49 x) (fun _ => rfl) fun x d w' hd hc => sv (run_ixRs rfl (E47 x) (E48 x) hlt) hc
        · exact opOk3_quiet _ (by intro x t hd _; cases hd; exact T50 x) (fun _ => rfl) fun x d w' hd hc => sv (run_load1 rfl (E49 x) (hRi.out _ hc.m)) hc
        · exact opOk3_quiet _ (by intro x t hd _; cases hd; exact T51 x) (fun _ => rfl) fun x d w' hd hc => sv (run_mov rfl (E0 x)) hc
        · exact opOk3_quiet _ (by intro x t hd _; cases hd; exact T52 x) (fun _ => rfl) fun x d w' hd hc => sv (run_nilP rfl (E51 x)) hc
        · exact opOk3_quiet _ (by intro x t hd _; cases hd; exact T53 x) (fun _ => rfl) fun x d w' hd hc => sv (run_fldT rfl (E52 x) (fun _ => by kernel_rfl)) hc
        · exact opOk3_quiet _ (by intro x t hd _; cases hd; exact T54 x) (fun _ => rfl) fun x d w' hd hc => sv (run_load1 rfl (E53 x) (hB1.out _ hc.m)) hc
        · exact opOk3_quiet _ (by intro x t hd _; cases hd; exact T55 x) (fun _ => rfl) fun x d w' hd hc => sv (run_mov rfl (E1 x)) hc
        · exact opOk3_quiet _ (by intro x t hd _; cases hd; exact T56 x) (fun _ => rfl) fun x d w' hd hc => sc (run_callB12 rfl (E43 x) (E50 x) (E54 x) (E55 x)) ((hbest.out w' hc.m).mono fun e w'' h => ⟨h.1, hc.mod ((Mod.refl _ _).after h.2)⟩)
        · exact opOk3_quiet _ (by intro x t hd _; cases hd; exact T36 x) (fun _ => rfl) fun x d w' hd hc => sv (run_mov rfl (E56 x)) hc
        · exact opOk3_quiet _ (by intro x t hd _; cases hd; exact T57 x) (fun _ => rfl) fun x d w' hd hc => sv (run_ext rfl (E36 x) rfl) hc
        · exact opOk3_quiet _ (by intro x t hd _; cases hd; exact T58 x) (fun _ => rfl) fun x d w' hd hc => sv (run_ext rfl (E36 x) rfl) hc
        · exact opOk3_loud rfl fun x d w' hd hn hc => by
              have n4 : d 24 = false := hn 24 (by kernel_rfl)
              rw [n4] at hc
              refine sk_v (run_allocWR rfl) ?_
              refine ⟨w'.heap.size, (by rw [hAF.out]; exact agree_set 23 (10, .pointer (some ⟨x, 0, none⟩)) rfl (by kernel_rfl)), (by intro t hd _; cases hd; exact T10 _), ?_⟩
              show ClB _ _ _ wr _ true (d 24) _
              rw [n4]
              exact hc.box
        · exact opOk3_loud rfl fun x d w' hd hn hc => by
              have n2 : d 23 = true := hd 23 (by kernel_rfl)
              rw [n2] at hc
              refine sk_s (run_storeP (ty := 157) rfl (E10 x) (E57 x) (run_storeVar_row w' x 157 _ (tmV Bw).toArray 157 (hc.x0 rfl).1 (by cases d 24 <;> rfl) (tm_one _) (by kernel_rfl))) ⟨x, agree_same _ _, (by intro t hd _; cases hd), ?_⟩
              show ClB _ _ _ wr _ (d 23) true _
              rw [n2]
              exact hc.put
        · exact opOk3_quiet _ (by intro x t hd _; cases hd; exact T11 x) (fun _ => rfl) fun x d w' hd hc => sv (run_asg rfl (E58 x)) hc
      · intro x d w' hd hc
        simp only [putAll, List.foldl_cons, List.foldl_nil, Act.put, List.setIfInBounds_toArray, List.set_cons_succ, List.set_cons_zero]
        rw [hd 23 (by decide), hd 24 (by decide)] at hc
        obtain ⟨hB, hx⟩ := hc.x0 rfl
        have hB : Blk w' x (tmV Bw).toArray 157 := hB
        have k2 := hB.cell (i := 2) (v := .int .i64 Bw.2.2) rfl
        have hm2 := Lib.hid (hm.out.trans hc.m)
        have k0' := hk0.out w' hc.m
        have hld2 := Lib.hid (run_i64 k2)
        obtain ⟨g1, g2⟩ := hst.out
        replace hB := Lib.hid hB
        clear hc hd hx hB0 hB1 hB2 hbest hVi hRi hk0 k0 hst
        by_cases e0 : be = 0
        · subst e0
          obtain ⟨g3, g4⟩ := g2 rfl
          by_cases c4 : bK i < 0 ∨ Bw.2.2 < rK i
          · obtain ⟨f1, f2⟩ := g3 c4
            have F1 := Lib.hid f1
            have F2 := Lib.hid f2
            clear f1 f2 g1 g2 g3 g4
            by_cases c5 : bK i < 0
            · have d5 : decide (bK i < 0) = true := decide_eq_true c5
              generalize hbk : bK i = bk at *
              generalize hrk : rK i = rk at *
              clear c4 hbk hrk
              go_upto_region 11 with (first | (refine wpList_load_v rfl 3 _ rfl ⟨x, 2, none⟩ rfl _ hld2.out ?_))
              go_quiet (fail)
              go_wp2
              go_roundw
              case rel => exact ⟨i + 1, by omega, by simp, by rw [F1.out], by rw [F2.out], hm2.out.drewN _⟩
              case measure => simp [intOf]; omega
            · have d5 : decide (bK i < 0) = false := decide_eq_false c5
              have c6 : Bw.2.2 < rK i := by omega
              have d6 : decide (Bw.2.2 < rK i) = true := decide_eq_true c6
              generalize hbk : bK i = bk at *
              generalize hrk : rK i = rk at *
              clear c4 hbk hrk
              go_upto_region 11 with (first | (refine wpList_load_v rfl 3 _ rfl ⟨x, 2, none⟩ rfl _ hld2.out ?_))
              go_quiet (fail)
              go_wp2
              go_roundw
              case rel => exact ⟨i + 1, by omega, by simp, by rw [F1.out], by rw [F2.out], hm2.out.drewN _⟩
              case measure => simp [intOf]; omega
          · have c5 : ¬ bK i < 0 := fun h => c4 (.inl h)
            have c6 : ¬ Bw.2.2 < rK i := fun h => c4 (.inr h)
            obtain ⟨f1, f2⟩ := g4 ⟨by omega, by omega⟩
            have F1 := Lib.hid f1
            have F2 := Lib.hid f2
            have d5 : decide (bK i < 0) = false := decide_eq_false c5
            have d6 : decide (Bw.2.2 < rK i) = false := decide_eq_false c6
            clear f1 f2 g1 g2 g3 g4 c4
            go_wp2_with (first | (refine wpList_load_v rfl 3 _ rfl ⟨x, 2, none⟩ rfl _ hld2.out ?_))
            go_roundw
            case rel => exact ⟨i + 1, by omega, by simp, by rw [F1.out], by rw [F2.out], hm2.out⟩
            case measure => simp [intOf]; omega
        · have e1 : (be == 0) = false := beq_eq_false_iff_ne.2 e0
          obtain ⟨f1, f2⟩ := g1 e0
          have F1 := Lib.hid f1
          have F2 := Lib.hid f2
          clear f1 f2 g1 g2
          go_wp2_with fail
          go_roundw
          case rel => exact ⟨i + 1, by omega, by simp, by rw [F1.out], by rw [F2.out], hm2.out⟩
          case measure => simp [intOf]; omega
    · obtain rfl : i = n := by omega
      replace hm := Lib.hid hm
      have hX2 := hKe.out
      clear hKe
      generalize bK i = bk at *
      generalize rK i = rk at *
      by_cases c5 : bk < 0
      · rw [if_pos c5] at hX2
        subst hX2
        clear hKs hbs hlv hcr
        go_wp2_with fail
        go_ret3
        exact ⟨rfl, hm.out.below (Nat.le_refl _) (fun _ h => h.elim)⟩
      · rw [if_neg c5] at hX2
        subst hX2
        clear hKs hbs hlv hcr
        go_wp2_with fail
        go_ret3
        exact ⟨rfl, hm.out.below (Nat.le_refl _) (fun _ h => h.elim)⟩
theorem rprc_calls {w : World} {F : Nat → Prop} {b gR : Nat} {fl : List Ve} {rows : List Rou2} {t : List Rq} (hP : PlnOk fl rows t) (h : RplAt w F b gR fl rows t) (req : Int) :
    Calls Tryz.prog 57 #[.pointer (some ⟨b, 0, none⟩), .int .i64 req] w fun e w' => e = .returned (.tuple #[.int .i64 (prcP fl rows t req).1, .int .i64 (prcP fl rows t req).2.1, .int .i64 (prcP fl rows t req).2.2]) ∧ Below w.heap.size w w' := by
  by_cases hb : (req < 0 ∨ (t.length : Int) ≤ req) ∨ 0 ≤ whereP rows req
  · exact rprc_bad hP h req hb
  · obtain ⟨r, rfl⟩ : ∃ r : Nat, req = r := ⟨req.toNat, by omega⟩
    exact rprc_good hP h (by omega) (by omega)
set_option maxHeartbeats 4000000 in
set_option maxRecDepth 100000 in
theorem rpput_calls {w : World} {F : Nat → Prop} {b gR : Nat} {fl : List Ve} {rows : List Rou2} {t : List Rq} (hP : PlnOk fl rows t) (h : RplAt w F b gR fl rows t) (req : Int) :
    Calls Tryz.prog 55 #[.pointer (some ⟨b, 0, none⟩), .int .i64 req] w fun e w' => e = .returned (.tuple #[.int .i64 (pputP fl rows t req).2.1, .int .i64 (pputP fl rows t req).2.2]) ∧
      RplAt w' (fun k => F k ∨ (w.heap.size ≤ k ∧ k < w'.heap.size)) b gR fl (pputP fl rows t req).1 t ∧ Mod (· = gR) w w' := by
  have hpr := Lib.hid (rprc_calls hP h req)
  by_cases he : (prcP fl rows t req).2.2 ≠ 0
  · rw [put_no he]
    obtain ⟨p1, p2, pe, hX⟩ : ∃ p1 p2 pe, prcP fl rows t req = (p1, p2, pe) := ⟨_, _, _, rfl⟩
    rw [hX] at hpr he ⊢
    dsimp only at hpr he ⊢
    have he2 : (pe == 0) = false := beq_eq_false_iff_ne.2 he
    have hgr := Lib.hid (fun w' (hb : Below w.heap.size w w') => (h.below hb).grow (F' := fun k => F k ∨ (w.heap.size ≤ k ∧ k < w'.heap.size)) (fun _ h => .inl h) (fun k hk => by
      obtain ⟨_, _, _, _, _, h'⟩ := h
      have := hb.size
      rcases hk with hk | hk
      · have := h'.lt k hk; omega
      · exact hk.2))
    clear hX hP h
    go_enter Tryz.func55, Tryz.ntmps55
    go_wp2_with fail
    refine hpr.out.mono ?_
    rintro e w1 ⟨rfl, hb⟩
    have hg := Lib.hid (hgr.out w1 hb)
    replace hb := Lib.hid hb
    clear hgr hpr
    go_wp2_with fail
    go_ret2
    exact ⟨rfl, hg.out, (Mod.refl _ _).after hb.out⟩
  · obtain ⟨i, a1, b1, hi, hab, hbl, hl14, hr, hw, hRw, h0, hcp, hpe, hpp⟩ := put_ok hP (Classical.not_not.1 he)
    rw [hpp]
    rw [hpe] at hpr
    dsimp only at hpr ⊢
    obtain ⟨r, rfl⟩ : ∃ r : Nat, req = r := ⟨req.toNat, by omega⟩
    obtain ⟨M, hM⟩ : ∃ M, withL (rows.getD i []) r a1 b1 = M := ⟨_, rfl⟩
    obtain ⟨R, hRR⟩ : ∃ R, riseV (fl.getD i ve0) (rows.getD i []) t r a1 b1 = R := ⟨_, rfl⟩
    rw [hM, hRR] at hcp
    rw [hRR] at hpr
    rw [hM, hRR]
    have hb0 : (bestV (fl.getD i ve0) (rows.getD i []) t r).2 = 0 := Classical.byContradiction fun hh => by
      have : (cputV (fl.getD i ve0) (rows.getD i []) t r).2.2 ≠ 0 := by
        unfold cputV cputP
        unfold bestV at hh
        rw [if_pos hh]
        exact hh
      rw [hcp] at this
      exact this rfl
    have hne : ∀ s ∈ rows.getD i [], s.1 ≠ (r : Int) := fun s hs => where_getD hw hs
    have hrT : r < t.length := by omega
    have hRi0 := hP.right i hi
    have hHr := Lib.hid h
    have hlen : rows.length = fl.length := hP.len
    have hfl := hP.many
    clear hP he hpe hpp hRw h0 hw hr hab hbl hl14 h hM hRR
    obtain ⟨n, hn⟩ : ∃ n, fl.length = n := ⟨_, rfl⟩
    have hlt : i < n := by omega
    have hltI : (i : Int) < (n : Int) := by omega
    have hi0 : (0 : Int) ≤ (i : Int) := by omega
    go_enter Tryz.func55, Tryz.ntmps55
    go_wp2_with fail
    refine hpr.out.mono ?_
    rintro e w2 ⟨rfl, hb⟩
    obtain ⟨qF, dF, qT, dT, qs, h⟩ := hHr.out.below hb
    have hbox := h.box
    obtain ⟨aV, eV⟩ := h.fleet.some_of (k := 0) (by rw [List.length_map]; omega)
    have hfe := h.fleet
    rw [eV, hn] at hbox
    rw [eV] at hfe
    have hir : i < rows.length := by omega
    have hiq : i < qs.length := by rw [h.lenq]; exact hi
    have hk := fun wx (hm : Mod (fun _ => False) w2 wx) (j : Nat) (v : Value) (hv : (#[.slice (some aV) n dF, .slice qT t.length dT, .slice (some ⟨gR, 0, none⟩) n n] : Array Value)[j]? = some v) => (hbox.mod hm (fun h => h)).cell (i := j) hv
    have hB0 := Lib.hid (fun wx (hm : Mod (fun _ => False) w2 wx) => run_cellVR (hk wx hm 0 _ rfl))
    have hB1 := Lib.hid (fun wx (hm : Mod (fun _ => False) w2 wx) => run_cellRq (hk wx hm 1 _ rfl))
    have hB2 := Lib.hid (fun wx (hm : Mod (fun _ => False) w2 wx) => run_cellRR (hk wx hm 2 _ rfl))
    have hVi := Lib.hid (fun wx (hm : Mod (fun _ => False) w2 wx) => (show (loadVar 53 (aV.add (i * 5))).run Tryz.prog wx = .ok (.agg (veR (fl.getD i ve0)).toArray) wx from by
      have := (els_modP hfe hm (fun _ _ _ h => h)).load (P := Tryz.prog) (a := aV) rfl (k := i) (by simpa using hi) (ty := 53) Tryz.underlying53 rfl (by kernel_rfl)
      rw [List.getElem_map] at this
      rw [List.getD_eq_getElem?_getD, List.getElem?_eq_getElem hi]
      exact this))
    have hck := Lib.hid (fun wx (hm : Mod (fun _ => False) w2 wx) => (by
      have := rs_cellR (els_modP h.rws hm (fun _ _ _ h => h)) hir
      rwa [addr0P] at this : wx.cell? ⟨gR, i, none⟩ = some (.slice (qs.getD i (none, 0)).1 (rows.getD i []).length (qs.getD i (none, 0)).2)))
    have hRi := Lib.hid (fun wx (hm : Mod (fun _ => False) w2 wx) => run_cellStR (hck.out wx hm))
    have htb := h.tb
    have hfz := Lib.hid (fun wx (hm : Mod (fun _ => False) w2 wx) => (by obtain ⟨C, hC⟩ := htb; exact (hC.mod hm (fun h => h)).froz i : wx.frozen? ⟨gR, i, none⟩ = false))
    have hput := Lib.hid (fun wx (hm : Mod (fun _ => False) w2 wx) => (by
      have := rcput_calls hRi0 hrT hne hb0 (qs.getD i (none, 0)).1 qT (qs.getD i (none, 0)).2 dT wx (els_modP (h.row i) hm (fun _ _ _ h => h)) (h.cap i) (els_modP h.req hm (fun _ _ _ h => h))
      rw [hcp] at this
      exact this : Calls Tryz.prog 88 #[.agg (veR (fl.getD i ve0)).toArray, .slice (qs.getD i (none, 0)).1 (rows.getD i []).length (qs.getD i (none, 0)).2, .slice qT t.length dT, .int .i64 (r : Int)] wx (R12Post wx M R)))
    unfold R12Post at hput
    have hset := Lib.hid (fun (C : Array Value) (wx : World) (hm : Mod (fun _ => False) w2 wx) (hB : Blk wx gR C 47) q d => (by
      have := els_setP hB (els_modP h.rws hm (fun _ _ _ h => h)) (K := i) (by rw [rsV_size]; exact hir) (J := 0) (by omega) (.slice q M.length d)
      rwa [rsV_set rows qs hir hiq M q d (by rw [rsV_size]; exact hir), Nat.mul_one, Nat.add_zero] at this : Els (wx.setCell ⟨gR, i, none⟩ (.slice q M.length d)) (some ⟨gR, 0, none⟩) 1 (rsV (rows.set i M) (qs.set i (q, d)) (rows.set i M).length)))
    have hH := Lib.hid h
    have hR0 := h.lt gR h.fR
    replace htb := Lib.hid htb
    have hb2 := Lib.hid hb
    generalize (veR (fl.getD i ve0)).toArray = Y at hVi hput
    generalize (qs.getD i (none, 0)).1 = qi at *
    generalize (qs.getD i (none, 0)).2 = di at *
    generalize (rows.getD i []).length = ln at *
    generalize t.length = T at *
    clear h hbox hfe hir hiq hk eV hHr hpr hcp hb0 hne hRi0 hlen hn hrT hb
    go_upto_region 4 with fail
    refine wp_region_rove (X := Option Addr × Nat) (none, 0) (fun x => [(20, .pointer (some ⟨b, 0, none⟩)), (21, .pointer (some ⟨b, 0, none⟩)), (22, .pointer (some ⟨b, 2, none⟩)), (23, .slice (some ⟨gR, 0, none⟩) n n), (24, .int .i64 (i : Int)), (25, .pointer (some ⟨b, 0, none⟩)), (26, .pointer (some ⟨b, 0, none⟩)), (27, .pointer (some ⟨b, 0, none⟩)), (28, .slice (some aV) n dF), (29, .int .i64 (i : Int)), (30, .pointer (some (aV.add (i * 5)))), (31, .agg Y), (32, .pointer (some ⟨b, 0, none⟩)), (33, .pointer (some ⟨b, 0, none⟩)), (34, .pointer (some ⟨b, 2, none⟩)), (35, .slice (some ⟨gR, 0, none⟩) n n), (36, .int .i64 (i : Int)), (37, .pointer (some ⟨gR, i, none⟩)), (38, .slice qi ln di), (39, .pointer (some ⟨b, 0, none⟩)), (40, .pointer (some ⟨b, 0, none⟩)), (41, .pointer (some ⟨b, 1, none⟩)), (42, .slice qT T dT), (43, .int .i64 (r : Int)), (46, .int .i64 R), (47, .int .i64 0), (48, .pointer (some ⟨gR, i, none⟩))] ++ [(44, .tuple #[.slice x.1 M.length x.2, .int .i64 R, .int .i64 0]), (19, .tuple #[.slice x.1 M.length x.2, .int .i64 R, .int .i64 0]), (45, .slice x.1 M.length x.2)])
      (fun x d W' => ClR M ⟨gR, i, none⟩ w2 x (d 24) (d 30) W') (by kernel_rfl) (by kernel_rfl) (by kernel_rfl) (by kernel_rfl) (fun x => by kernel_rfl)
      (ClR.start (Mod.refl _ _).drew) ?_ ?_
    · intro aF hAF
      have E0 : ∀ x, (aF x).eval (.tmp 0) = .pointer (some ⟨b, 0, none⟩) := by intro x; rw [hAF]; kernel_rfl
      have E6 : ∀ x, (aF x).eval (.tmp 6) = .int .i64 (i : Int) := by intro x; rw [hAF]; kernel_rfl
      have E1 : ∀ x, (aF x).eval (.tmp 1) = .int .i64 (r : Int) := by intro x; rw [hAF]; kernel_rfl
      have T20 : ∀ x, (aF x).tmps[20]? = some (.pointer (some ⟨b, 0, none⟩)) := by intro x; rw [hAF]; kernel_rfl
      have E20 : ∀ x, (aF x).eval (.tmp 20) = .pointer (some ⟨b, 0, none⟩) := by intro x; rw [hAF]; kernel_rfl
      have T21 : ∀ x, (aF x).tmps[21]? = some (.pointer (some ⟨b, 0, none⟩)) := by intro x; rw [hAF]; kernel_rfl
      have E21 : ∀ x, (aF x).eval (.tmp 21) = .pointer (some ⟨b, 0, none⟩) := by intro x; rw [hAF]; kernel_rfl
      have T22 : ∀ x, (aF x).tmps[22]? = some (.pointer (some ⟨b, 2, none⟩)) := by intro x; rw [hAF]; kernel_rfl
      have E22 : ∀ x, (aF x).eval (.tmp 22) = .pointer (some ⟨b, 2, none⟩) := by intro x; rw [hAF]; kernel_rfl
      have T23 : ∀ x, (aF x).tmps[23]? = some (.slice (some ⟨gR, 0, none⟩) n n) := by intro x; rw [hAF]; kernel_rfl
      have E23 : ∀ x, (aF x).eval (.tmp 23) = .slice (some ⟨gR, 0, none⟩) n n := by intro x; rw [hAF]; kernel_rfl
      have T24 : ∀ x, (aF x).tmps[24]? = some (.int .i64 (i : Int)) := by intro x; rw [hAF]; kernel_rfl
      have E24 : ∀ x, (aF x).eval (.tmp 24) = .int .i64 (i : Int) := by intro x; rw [hAF]; kernel_rfl
      have T25 : ∀ x, (aF x).tmps[25]? = some (.pointer (some ⟨b, 0, none⟩)) := by intro x; rw [hAF]; kernel_rfl
      have E25 : ∀ x, (aF x).eval (.tmp 25) = .pointer (some ⟨b, 0, none⟩) := by intro x; rw [hAF]; kernel_rfl
      have T26 : ∀ x, (aF x).tmps[26]? = some (.pointer (some ⟨b, 0, none⟩)) := by intro x; rw [hAF]; kernel_rfl
      have E26 : ∀ x, (aF x).eval (.tmp 26) = .pointer (some ⟨b, 0, none⟩) := by intro x; rw [hAF]; kernel_rfl
      have T27 : ∀ x, (aF x).tmps[27]? = some (.pointer (some ⟨b, 0, none⟩)) := by intro x; rw [hAF]; kernel_rfl
      have E27 : ∀ x, (aF x).eval (.tmp 27) = .pointer (some ⟨b, 0, none⟩) := by intro x; rw [hAF]; kernel_rfl
      have T28 : ∀ x, (aF x).tmps[28]? = some (.slice (some aV) n dF) := by intro x; rw [hAF]; kernel_rfl
      have E28 : ∀ x, (aF x).eval (.tmp 28) = .slice (some aV) n dF := by intro x; rw [hAF]; kernel_rfl
      have T29 : ∀ x, (aF x).tmps[29]? = some (.int .i64 (i : Int)) := by intro x; rw [hAF]; kernel_rfl
      have E29 : ∀ x, (aF x).eval (.tmp 29) = .int .i64 (i : Int) := by intro x; rw [hAF]; kernel_rfl
      have T30 : ∀ x, (aF x).tmps[30]? = some (.pointer (some (aV.add (i * 5)))) := by intro x; rw [hAF]; kernel_rfl
      have E30 : ∀ x, (aF x).eval (.tmp 30) = .pointer (some (aV.add (i * 5))) := by intro x; rw [hAF]; kernel_rfl
      have T31 : ∀ x, (aF x).tmps[31]? = some (.agg Y) := by intro x; rw [hAF]; kernel_rfl
      have E31 : ∀ x, (aF x).eval (.tmp 31) = .agg Y := by intro x; rw [hAF]; kernel_rfl
      have T32 : ∀ x, (aF x).tmps[32]? = some (.pointer (some ⟨b, 0, none⟩)) := by intro x; rw [hAF]; kernel_rfl
      have E32 : ∀ x, (aF x).eval (.tmp 32) = .pointer (some ⟨b, 0, none⟩) := by intro x; rw [hAF]; kernel_rfl
      have T33 : ∀ x, (aF x).tmps[33]? = some (.pointer (some ⟨b, 0, none⟩)) := by intro x; rw [hAF]; kernel_rfl
      have E33 : ∀ x, (aF x).eval (.tmp 33) = .pointer (some ⟨b, 0, none⟩) := by intro x; rw [hAF]; kernel_rfl
      have T34 : ∀ x, (aF x).tmps[34]? = some (.pointer (some ⟨b, 2, none⟩)) := by intro x; rw [hAF]; kernel_rfl
      have E34 : ∀ x, (aF x).eval (.tmp 34) = .pointer (some ⟨b, 2, none⟩) := by intro x; rw [hAF]; kernel_rfl
      have T35 : ∀ x, (aF x).tmps[35]? = some (.slice (some ⟨gR, 0, none⟩) n n) := by intro x; rw [hAF]; kernel_rfl
      have E35 : ∀ x, (aF x).eval (.tmp 35) = .slice (some ⟨gR, 0, none⟩) n n := by intro x; rw [hAF]; kernel_rfl
      have T36 : ∀ x, (aF x).tmps[36]? = some (.int .i64 (i : Int)) := by intro x; rw [hAF]; kernel_rfl
      have E36 : ∀ x, (aF x).eval (.tmp 36) = .int .i64 (i : Int) := by intro x; rw [hAF]; kernel_rfl
      have T37 : ∀ x, (aF x).tmps[37]? = some (.pointer (some ⟨gR, i, none⟩)) := by intro x; rw [hAF]; kernel_rfl
      have E37 : ∀ x, (aF x).eval (.tmp 37) = .pointer (some ⟨gR, i, none⟩) := by intro x; rw [hAF]; kernel_rfl
      have T38 : ∀ x, (aF x).tmps[38]? = some (.slice qi ln di) := by intro x; rw [hAF]; kernel_rfl
      have E38 : ∀ x, (aF x).eval (.tmp 38) = .slice qi ln di := by intro x; rw [hAF]; kernel_rfl
      have T39 : ∀ x, (aF x).tmps[39]? = some (.pointer (some ⟨b, 0, none⟩)) := by intro x; rw [hAF]; kernel_rfl
      have E39 : ∀ x, (aF x).eval (.tmp 39) = .pointer (some ⟨b, 0, none⟩) := by intro x; rw [hAF]; kernel_rfl
      have T40 : ∀ x, (aF x).tmps[40]? = some (.pointer (some ⟨b, 0, none⟩)) := by intro x; rw [hAF]; kernel_rfl
      have E40 : ∀ x, (aF x).eval (.tmp 40) = .pointer (some ⟨b, 0, none⟩) := by intro x; rw [hAF]; kernel_rfl
      have T41 : ∀ x, (aF x).tmps[41]? = some (.pointer (some ⟨b, 1, none⟩)) := by intro x; rw [hAF]; kernel_rfl
      have E41 : ∀ x, (aF x).eval (.tmp 41) = .pointer (some ⟨b, 1, none⟩) := by intro x; rw [hAF]; kernel_rfl
      have T42 : ∀ x, (aF x).tmps[42]? = some (.slice qT T dT) := by intro x; rw [hAF]; kernel_rfl
      have E42 : ∀ x, (aF x).eval (.tmp 42) = .slice qT T dT := by intro x; rw [hAF]; kernel_rfl
      have T43 : ∀ x, (aF x).tmps[43]? = some (.int .i64 (r : Int)) := by intro x; rw [hAF]; kernel_rfl
      have E43 : ∀ x, (aF x).eval (.tmp 43) = .int .i64 (r : Int) := by intro x; rw [hAF]; kernel_rfl
      have T46 : ∀ x, (aF x).tmps[46]? = some (.int .i64 R) := by intro x; rw [hAF]; kernel_rfl
      have E46 : ∀ x, (aF x).eval (.tmp 46) = .int .i64 R := by intro x; rw [hAF]; kernel_rfl
      have T47 : ∀ x, (aF x).tmps[47]? = some (.int .i64 0) := by intro x; rw [hAF]; kernel_rfl
      have E47 : ∀ x, (aF x).eval (.tmp 47) = .int .i64 0 := by intro x; rw [hAF]; kernel_rfl
      have T48 : ∀ x, (aF x).tmps[48]? = some (.pointer (some ⟨gR, i, none⟩)) := by intro x; rw [hAF]; kernel_rfl
      have E48 : ∀ x, (aF x).eval (.tmp 48) = .pointer (some ⟨gR, i, none⟩) := by intro x; rw [hAF]; kernel_rfl
      have T44 : ∀ x, (aF x).tmps[44]? = some (.tuple #[.slice x.1 M.length x.2, .int .i64 R, .int .i64 0]) := by intro x; rw [hAF]; kernel_rfl
      have E44 : ∀ x, (aF x).eval (.tmp 44) = .tuple #[.slice x.1 M.length x.2, .int .i64 R, .int .i64 0] := by intro x; rw [hAF]; kernel_rfl
      have T19 : ∀ x, (aF x).tmps[19]? = some (.tuple #[.slice x.1 M.length x.2, .int .i64 R, .int .i64 0]) := by intro x; rw [hAF]; kernel_rfl
      have E19 : ∀ x, (aF x).eval (.tmp 19) = .tuple #[.slice x.1 M.length x.2, .int .i64 R, .int .i64 0] := by intro x; rw [hAF]; kernel_rfl
      have T45 : ∀ x, (aF x).tmps[45]? = some (.slice x.1 M.length x.2) := by intro x; rw [hAF]; kernel_rfl
      have E45 : ∀ x, (aF x).eval (.tmp 45) = .slice x.1 M.length x.2 := by intro x; rw [hAF]; kernel_rfl
      replace hAF := Lib.hid hAF
      refine ⟨?_, ?_, ?_, ?_, ?_, ?_, ?_, ?_, ?_, ?_, ?_, ?_, ?_, ?_, ?_, ?_, ?_, ?_, ?_, ?_, ?_, ?_, ?_, ?_, ?_, ?_, ?_, ?_, ?_, ?_, ?_, trivial⟩
      · exact opOk3_quiet _ (by intro x t hd _; cases hd; exact T20 x) (fun _ => rfl) fun x d w' hd hc => sv (run_mov rfl (E0 x)) hc
      · exact opOk3_quiet _ (by intro x t hd _; cases hd; exact T21 x) (fun _ => rfl) fun x d w' hd hc => sv (run_nilP rfl (E20 x)) hc
      · exact opOk3_quiet _ (by intro x t hd _; cases hd; exact T22 x) (fun _ => rfl) fun x d w' hd hc => sv (run_fldT rfl (E21 x) (fun _ => by kernel_rfl)) hc
      · exact opOk3_quietL _ (by intro x t hd _; cases hd; exact T23 x) (fun _ => rfl) fun x d w' hd hn hc => sv (run_load1 rfl (E22 x) (hB2.out _ (ClR.m (by have n := hn 30 (by kernel_rfl); rw [n] at hc; exact hc)))) hc
      · exact opOk3_quiet _ (by intro x t hd _; cases hd; exact T24 x) (fun _ => rfl) fun x d w' hd hc => sv (run_mov rfl (E6 x)) hc
      · exact opOk3_quiet _ (by intro x t hd _; cases hd; exact T25 x) (fun _ => rfl) fun x d w' hd hc => sv (run_mov rfl (E0 x)) hc
      · exact opOk3_quiet _ (by intro x t hd _; cases hd; exact T26 x) (fun _ => rfl) fun x d w' hd hc => sv (run_nilP rfl (E25 x)) hc
      · exact opOk3_quiet _ (by intro x t hd _; cases hd; exact T27 x) (fun _ => rfl) fun x d w' hd hc => sv (run_fldT rfl (E26 x) (fun _ => by kernel_rfl)) hc
      · exact opOk3_quietL _ (by intro x t hd _; cases hd; exact T28 x) (fun _ => rfl) fun x d w' hd hn hc => sv (run_load1 rfl (E27 x) (hB0.out _ (ClR.m (by have n := hn 30 (by kernel_rfl); rw [n] at hc; exact hc)))) hc
      · exact opOk3_quiet _ (by intro x t hd _; cases hd; exact T29 x) (fun _ => rfl) fun x d w' hd hc => sv (run_mov rfl (E6 x)) hc
      · exact opOk3_quiet _ (by intro x t hd _; cases hd; exact T30 x) (fun _ => rfl) fun x d w' hd hc => sv (run_ixVeR rfl (E28 x) (E29 x) hlt) hc
      · exact opOk3_quietL _ (by intro x t hd _; cases hd; exact T31 x) (fun _ => rfl) fun x d w' hd hn hc => sv (run_load1 rfl (E30 x) (hVi.out _ (ClR.m (by have n := hn 30 (by kernel_rfl); rw [n] at hc; exact hc)))) hc
      · exact opOk3_quiet _ (by intro x t hd _; cases hd; exact T32 x) (fun _ => rfl) fun x d w' hd hc => sv (run_mov rfl (E0 x)) hc
      · exact opOk3_quiet _ (by intro x t hd _; cases hd; exact T33 x) (fun _ => rfl) fun x d w' hd hc => sv (run_nilP rfl (E32 x)) hc
      · exact opOk3_quiet _ (by intro x t hd _; cases hd; exact T34 x) (fun _ => rfl) fun x d w' hd hc => sv (run_fldT rfl (E33 x) (fun _ => by kernel_rfl)) hc
      · exact opOk3_quietL _ (by intro x t hd _; cases hd; exact T35 x) (fun _ => rfl) fun x d w' hd hn hc => sv (run_load1 rfl (E34 x) (hB2.out _ (ClR.m (by have n := hn 30 (by kernel_rfl); rw [n] at hc; exact hc)))) hc
      · exact opOk3_quiet _ (by intro x t hd _; cases hd; exact T36 x) (fun _ => rfl) fun x d w' hd hc => sv (run_mov rfl (E6 x)) hc
      · exact opOk3_quiet _ (by intro x t hd _; cases hd; exact T37 x) (fun _ => rfl) fun x d w' hd hc => sv (run_ixRs0 rfl (E35 x) (E36 x) hlt) hc
      · exact opOk3_quietL _ (by intro x t hd _; cases hd; exact T38 x) (fun _ => rfl) fun x d w' hd hn hc => sv (run_load1 rfl (E37 x) (hRi.out _ (ClR.m (by have n := hn 30 (by kernel_rfl); rw [n] at hc; exact hc)))) hc
      · exact opOk3_quiet _ (by intro x t hd _; cases hd; exact T39 x) (fun _ => rfl) fun x d w' hd hc => sv (run_mov rfl (E0 x)) hc
      · exact opOk3_quiet _ (by intro x t hd _; cases hd; exact T40 x) (fun _ => rfl) fun x d w' hd hc => sv (run_nilP rfl (E39 x)) hc
      · exact opOk3_quiet _ (by intro x t hd _; cases hd; exact T41 x) (fun _ => rfl) fun x d w' hd hc => sv (run_fldT rfl (E40 x) (fun _ => by kernel_rfl)) hc
      · exact opOk3_quietL _ (by intro x t hd _; cases hd; exact T42 x) (fun _ => rfl) fun x d w' hd hn hc => sv (run_load1 rfl (E41 x) (hB1.out _ (ClR.m (by have n := hn 30 (by kernel_rfl); rw [n] at hc; exact hc)))) hc
      · exact opOk3_quiet _ (by intro x t hd _; cases hd; exact T43 x) (fun _ => rfl) fun x d w' hd hc => sv (run_mov rfl (E1 x)) hc
      · exact opOk3_loud rfl fun x d w' hd hn hc => by
            have n2 : d 30 = false := hn 30 (by kernel_rfl)
            rw [n2] at hc
            have hm := hc.m
            refine sk (run_callC12 rfl (E31 x) (E38 x) (E42 x) (E43 x)) ((hput.out w' hm).mono ?_)
            rintro e w'' ⟨hb, q, dd, rfl, h2, h3, h4⟩
            refine ⟨_, rfl, (q, dd), (by rw [hAF.out]; exact agree_any (by kernel_rfl) (by kernel_rfl)), (by intro t hd _; cases hd; exact T44 _), ?_⟩
            show ClR M _ w2 _ true (d 30) _
            rw [n2]
            exact ClR.call hm hb h3 h2 h4
      · exact opOk3_quiet (fun x => .tuple #[.slice x.1 M.length x.2, .int .i64 R, .int .i64 0]) (by intro x t hd _; cases hd; exact T19 x) (fun _ => rfl) fun x d w' hd hc => sv (run_mov rfl (E44 x)) hc
      · exact opOk3_quiet (fun x => .slice x.1 M.length x.2) (by intro x t hd _; cases hd; exact T45 x) (fun _ => rfl) fun x d w' hd hc => sv (run_ext rfl (E19 x) rfl) hc
      · exact opOk3_quiet _ (by intro x t hd _; cases hd; exact T46 x) (fun _ => rfl) fun x d w' hd hc => sv (run_ext rfl (E19 x) rfl) hc
      · exact opOk3_quiet _ (by intro x t hd _; cases hd; exact T47 x) (fun _ => rfl) fun x d w' hd hc => sv (run_ext rfl (E19 x) rfl) hc
      · exact opOk3_quiet _ (by intro x t hd _; cases hd; exact T48 x) (fun _ => rfl) fun x d w' hd hc => sv (run_ixRs0 rfl (E23 x) (E24 x) hlt) hc
      · exact opOk3_loud rfl fun x d w' hd hn hc => by
            have n1 : d 24 = true := hd 24 (by kernel_rfl)
            have n2 : d 30 = false := hn 30 (by kernel_rfl)
            rw [n1, n2] at hc
            have hm := hc.m
            refine sk_s (run_storeS rfl (E48 x) (E45 x) (hck.out w' hm) (hfz.out w' hm)) ⟨x, agree_same _ _, (by intro t hd _; cases hd), ?_⟩
            show ClR M _ w2 _ (d 24) true _
            rw [n1]
            exact hc.put
    · intro x d w' hd hc
      simp only [putAll, List.foldl_cons, List.foldl_nil, List.cons_append, List.nil_append, Act.put, List.setIfInBounds_toArray, List.set_cons_succ, List.set_cons_zero]
      rw [hd 24 (by decide), hd 30 (by decide)] at hc
      obtain ⟨W4, hm4, hx, hW5⟩ := hc
      obtain ⟨q, dq⟩ := x
      obtain ⟨hE, hcap, hf⟩ := hx rfl
      dsimp only at hE hcap hf hW5 ⊢
      replace hW5 : w' = W4.setCell ⟨gR, i, none⟩ (.slice q M.length dq) := hW5
      have hm5 := (Mod.refl (· = gR) W4).setCell (p := ⟨gR, i, none⟩) (fun _ => rfl) (.slice q M.length dq)
      rw [← hW5] at hm5
      obtain ⟨C, hC⟩ := htb.out
      have hC4 := hC.mod hm4 (fun h => h)
      have hT5 := hset.out C W4 hm4 hC4 q dq
      have hC5 := hC4.set i (.slice q M.length dq)
      rw [← hW5] at hT5 hC5
      have hall : Mod (· = gR) w2 w' := (hm4.mono (fun _ _ h => h.elim)).trans hm5
      have hnx := hH.out.next (i := i) (l := M) (q := q) (d := dq) hall hi hT5 ⟨_, hC5⟩
        (els_modP hE hm5 (fun a ha h0 e => (by have := hf (fun h => h0 (by rw [h]; rfl)) a ha; have : a.block = gR := e; omega)))
        hcap (fun h0 a ha => ⟨(hf h0 a ha).1, Nat.lt_of_lt_of_le (hf h0 a ha).2 hm5.size⟩)
      have hs2 := hb2.out.size
      have hfin := Lib.hid (RplAt.grow (F' := fun k => F k ∨ (w.heap.size ≤ k ∧ k < w'.heap.size)) ⟨qF, dF, qT, dT, _, hnx⟩ (fun k hk => by
        rcases hk with hk | hk
        · exact .inl hk
        · exact .inr ⟨by omega, hk.2⟩) (fun k hk => by
        rcases hk with hk | hk
        · exact hnx.lt k (.inl hk)
        · exact hk.2))
      have hmF := Lib.hid (((Mod.refl (· = gR) w).after hb2.out).trans hall)
      clear hE hcap hf hW5 hm5 hC hC4 hT5 hC5 hm4 hx hd hH hset hck hfz hput htb hnx hall hb2 hB0 hB1 hB2 hVi hRi
      go_wp2_with fail
      go_ret2
      exact ⟨rfl, hfin.out, hmF.out⟩
set_option maxHeartbeats 4000000 in
set_option maxRecDepth 100000 in
theorem rptake_calls {w : World} {F : Nat → Prop} {b gR : Nat} {fl : List Ve} {rows : List Rou2} {t : List Rq} (hP : PlnOk fl rows t) (h : RplAt w F b gR fl rows t) (req : Int) :
    Calls Tryz.prog 56 #[.pointer (some ⟨b, 0, none⟩), .int .i64 req] w fun e w' => e = .returned (.int .i64 (ptakP rows req).2) ∧
      RplAt w' (fun k => F k ∨ (w.heap.size ≤ k ∧ k < w'.heap.size)) b gR fl (ptakP rows req).1 t ∧ Mod (· = gR) w w' := by
  have hwh := Lib.hid (rwhere_calls h hP.many.2 (fun i => Nat.le_trans (hP.row i) (by omega)) req)
  by_cases he : whereP rows req < 0
  · have e1 : ptakP rows req = (rows, 12) := if_pos he
    rw [e1]
    have hgr := Lib.hid (h.grow (F' := fun k => F k ∨ (w.heap.size ≤ k ∧ k < w.heap.size)) (fun _ h => .inl h) (fun k hk => by
      obtain ⟨_, _, _, _, _, h'⟩ := h
      rcases hk with hk | hk
      · exact h'.lt k hk
      · exact hk.2))
    generalize whereP rows req = wh at *
    clear e1 hP h
    go_enter Tryz.func56, Tryz.ntmps56
    go_wp2_with fail
    refine hwh.out.mono ?_
    rintro e w1 ⟨rfl, rfl⟩
    clear hwh
    go_wp2_with fail
    go_ret
    exact ⟨rfl, hgr.out, Mod.refl _ _⟩
  · obtain ⟨i, hir, hw0, hmem⟩ := where_some (by omega : 0 ≤ whereP rows req)
    have hlen : rows.length = fl.length := hP.len
    have hi : i < fl.length := by omega
    have e1 : ptakP rows req = (rows.set i (woP (rows.getD i []) req), 0) := by
      unfold ptakP
      rw [if_neg he, hw0, Int.toNat_natCast]
    rw [e1]
    rw [hw0] at hwh
    dsimp only
    have hr16 := hP.row i
    obtain ⟨M, hM⟩ : ∃ M, woP (rows.getD i []) req = M := ⟨_, rfl⟩
    rw [hM]
    obtain ⟨n, hn⟩ : ∃ n, fl.length = n := ⟨_, rfl⟩
    have hlt : i < n := by omega
    have hltI : (i : Int) < (n : Int) := by omega
    have hi0 : (0 : Int) ≤ (i : Int) := by omega
    have hi1 : ¬ (i : Int) < 0 := by omega
    obtain ⟨qF, dF, qT, dT, qs, h⟩ := h
    have hbox := h.box
    rw [hn] at hbox
    have hiq : i < qs.length := by rw [h.lenq]; exact hi
    obtain ⟨w2, hw2⟩ : ∃ w2, w = w2 := ⟨_, rfl⟩
    have hk := fun wx (hm : Mod (fun _ => False) w2 wx) (v : Value) (hv : (#[.slice qF n dF, .slice qT t.length dT, .slice (some ⟨gR, 0, none⟩) n n] : Array Value)[2]? = some v) => (hbox.mod (hw2 ▸ hm) (fun h => h)).cell (i := 2) hv
    subst hw2
    have hB2 := Lib.hid (fun wx (hm : Mod (fun _ => False) w wx) => run_cellRR (hk wx hm _ rfl))
    have hck := Lib.hid (fun wx (hm : Mod (fun _ => False) w wx) => (by
      have := rs_cellR (els_modP h.rws hm (fun _ _ _ h => h)) hir
      rwa [addr0P] at this : wx.cell? ⟨gR, i, none⟩ = some (.slice (qs.getD i (none, 0)).1 (rows.getD i []).length (qs.getD i (none, 0)).2)))
    have hRi := Lib.hid (fun wx (hm : Mod (fun _ => False) w wx) => run_cellStR (hck.out wx hm))
    have htb := h.tb
    have hfz := Lib.hid (fun wx (hm : Mod (fun _ => False) w wx) => (by obtain ⟨C, hC⟩ := htb; exact (hC.mod hm (fun h => h)).froz i : wx.frozen? ⟨gR, i, none⟩ = false))
    have hput := Lib.hid (fun wx (hm : Mod (fun _ => False) w wx) => (by
      have := rwithout_calls (qs.getD i (none, 0)).1 (qs.getD i (none, 0)).2 (rows.getD i []) req wx (els_modP (h.row i) hm (fun _ _ _ h => h)) (by omega)
      rw [hM] at this
      exact this : Calls Tryz.prog 89 #[.slice (qs.getD i (none, 0)).1 (rows.getD i []).length (qs.getD i (none, 0)).2, .int .i64 req] wx (fun e w' => (∃ q d, e = .returned (.slice q M.length d) ∧ (M.length ≤ d ∧ d ≤ 9223372036854775807) ∧ Els w' q 2 (M.map stV) ∧ (∀ a, q = some a → wx.heap.size ≤ a.block)) ∧ Below wx.heap.size wx w')))
    have hset := Lib.hid (fun (C : Array Value) (wx : World) (hm : Mod (fun _ => False) w wx) (hB : Blk wx gR C 47) q d => (by
      have := els_setP hB (els_modP h.rws hm (fun _ _ _ h => h)) (K := i) (by rw [rsV_size]; exact hir) (J := 0) (by omega) (.slice q M.length d)
      rwa [rsV_set rows qs hir hiq M q d (by rw [rsV_size]; exact hir), Nat.mul_one, Nat.add_zero] at this : Els (wx.setCell ⟨gR, i, none⟩ (.slice q M.length d)) (some ⟨gR, 0, none⟩) 1 (rsV (rows.set i M) (qs.set i (q, d)) (rows.set i M).length)))
    have hH := Lib.hid h
    have hR0 := h.lt gR h.fR
    replace htb := Lib.hid htb
    generalize (qs.getD i (none, 0)).1 = qi at *
    generalize (qs.getD i (none, 0)).2 = di at *
    generalize (rows.getD i []).length = ln at *
    clear h hbox hir hiq hk hlen hn hM hmem hw0 he e1 hP hr16
    go_enter Tryz.func56, Tryz.ntmps56
    go_wp2_with fail
    refine hwh.out.mono ?_
    rintro e w2 ⟨rfl, rfl⟩
    clear hwh
    obtain ⟨w2, hw2⟩ : ∃ w2, w = w2 := ⟨_, rfl⟩
    subst hw2
    go_upto_region 4 with fail
    refine wp_region_rove (X := Option Addr × Nat) (none, 0) (fun x => [(11, .pointer (some ⟨b, 0, none⟩)), (12, .pointer (some ⟨b, 0, none⟩)), (13, .pointer (some ⟨b, 2, none⟩)), (14, .slice (some ⟨gR, 0, none⟩) n n), (15, .int .i64 (i : Int)), (16, .pointer (some ⟨b, 0, none⟩)), (17, .pointer (some ⟨b, 0, none⟩)), (18, .pointer (some ⟨b, 2, none⟩)), (19, .slice (some ⟨gR, 0, none⟩) n n), (20, .int .i64 (i : Int)), (21, .pointer (some ⟨gR, i, none⟩)), (22, .slice qi ln di), (23, .int .i64 req), (25, .pointer (some ⟨gR, i, none⟩))] ++ [(24, .slice x.1 M.length x.2)])
      (fun x d W' => ClR M ⟨gR, i, none⟩ w x (d 13) (d 15) W') (by kernel_rfl) (by kernel_rfl) (by kernel_rfl) (by kernel_rfl) (fun x => by kernel_rfl)
      (ClR.start (Mod.refl _ _).drew) ?_ ?_
    · intro aF hAF
      have E0 : ∀ x, (aF x).eval (.tmp 0) = .pointer (some ⟨b, 0, none⟩) := by intro x; rw [hAF]; kernel_rfl
      have E5 : ∀ x, (aF x).eval (.tmp 5) = .int .i64 (i : Int) := by intro x; rw [hAF]; kernel_rfl
      have E1 : ∀ x, (aF x).eval (.tmp 1) = .int .i64 req := by intro x; rw [hAF]; kernel_rfl
      have T11 : ∀ x, (aF x).tmps[11]? = some (.pointer (some ⟨b, 0, none⟩)) := by intro x; rw [hAF]; kernel_rfl
      have E11 : ∀ x, (aF x).eval (.tmp 11) = .pointer (some ⟨b, 0, none⟩) := by intro x; rw [hAF]; kernel_rfl
      have T12 : ∀ x, (aF x).tmps[12]? = some (.pointer (some ⟨b, 0, none⟩)) := by intro x; rw [hAF]; kernel_rfl
      have E12 : ∀ x, (aF x).eval (.tmp 12) = .pointer (some ⟨b, 0, none⟩) := by intro x; rw [hAF]; kernel_rfl
      have T13 : ∀ x, (aF x).tmps[13]? = some (.pointer (some ⟨b, 2, none⟩)) := by intro x; rw [hAF]; kernel_rfl
      have E13 : ∀ x, (aF x).eval (.tmp 13) = .pointer (some ⟨b, 2, none⟩) := by intro x; rw [hAF]; kernel_rfl
      have T14 : ∀ x, (aF x).tmps[14]? = some (.slice (some ⟨gR, 0, none⟩) n n) := by intro x; rw [hAF]; kernel_rfl
      have E14 : ∀ x, (aF x).eval (.tmp 14) = .slice (some ⟨gR, 0, none⟩) n n := by intro x; rw [hAF]; kernel_rfl
      have T15 : ∀ x, (aF x).tmps[15]? = some (.int .i64 (i : Int)) := by intro x; rw [hAF]; kernel_rfl
      have E15 : ∀ x, (aF x).eval (.tmp 15) = .int .i64 (i : Int) := by intro x; rw [hAF]; kernel_rfl
      have T16 : ∀ x, (aF x).tmps[16]? = some (.pointer (some ⟨b, 0, none⟩)) := by intro x; rw [hAF]; kernel_rfl
      have E16 : ∀ x, (aF x).eval (.tmp 16) = .pointer (some ⟨b, 0, none⟩) := by intro x; rw [hAF]; kernel_rfl
      have T17 : ∀ x, (aF x).tmps[17]? = some (.pointer (some ⟨b, 0, none⟩)) := by intro x; rw [hAF]; kernel_rfl
      have E17 : ∀ x, (aF x).eval (.tmp 17) = .pointer (some ⟨b, 0, none⟩) := by intro x; rw [hAF]; kernel_rfl
      have T18 : ∀ x, (aF x).tmps[18]? = some (.pointer (some ⟨b, 2, none⟩)) := by intro x; rw [hAF]; kernel_rfl
      have E18 : ∀ x, (aF x).eval (.tmp 18) = .pointer (some ⟨b, 2, none⟩) := by intro x; rw [hAF]; kernel_rfl
      have T19 : ∀ x, (aF x).tmps[19]? = some (.slice (some ⟨gR, 0, none⟩) n n) := by intro x; rw [hAF]; kernel_rfl
      have E19 : ∀ x, (aF x).eval (.tmp 19) = .slice (some ⟨gR, 0, none⟩) n n := by intro x; rw [hAF]; kernel_rfl
      have T20 : ∀ x, (aF x).tmps[20]? = some (.int .i64 (i : Int)) := by intro x; rw [hAF]; kernel_rfl
      have E20 : ∀ x, (aF x).eval (.tmp 20) = .int .i64 (i : Int) := by intro x; rw [hAF]; kernel_rfl
      have T21 : ∀ x, (aF x).tmps[21]? = some (.pointer (some ⟨gR, i, none⟩)) := by intro x; rw [hAF]; kernel_rfl
      have E21 : ∀ x, (aF x).eval (.tmp 21) = .pointer (some ⟨gR, i, none⟩) := by intro x; rw [hAF]; kernel_rfl
      have T22 : ∀ x, (aF x).tmps[22]? = some (.slice qi ln di) := by intro x; rw [hAF]; kernel_rfl
      have E22 : ∀ x, (aF x).eval (.tmp 22) = .slice qi ln di := by intro x; rw [hAF]; kernel_rfl
      have T23 : ∀ x, (aF x).tmps[23]? = some (.int .i64 req) := by intro x; rw [hAF]; kernel_rfl
      have E23 : ∀ x, (aF x).eval (.tmp 23) = .int .i64 req := by intro x; rw [hAF]; kernel_rfl
      have T25 : ∀ x, (aF x).tmps[25]? = some (.pointer (some ⟨gR, i, none⟩)) := by intro x; rw [hAF]; kernel_rfl
      have E25 : ∀ x, (aF x).eval (.tmp 25) = .pointer (some ⟨gR, i, none⟩) := by intro x; rw [hAF]; kernel_rfl
      have T24 : ∀ x, (aF x).tmps[24]? = some (.slice x.1 M.length x.2) := by intro x; rw [hAF]; kernel_rfl
      have E24 : ∀ x, (aF x).eval (.tmp 24) = .slice x.1 M.length x.2 := by intro x; rw [hAF]; kernel_rfl
      replace hAF := Lib.hid hAF
      refine ⟨?_, ?_, ?_, ?_, ?_, ?_, ?_, ?_, ?_, ?_, ?_, ?_, ?_, ?_, ?_, ?_, trivial⟩
      · exact opOk3_quiet _ (by intro x t hd _; cases hd; exact T11 x) (fun _ => rfl) fun x d w' hd hc => sv (run_mov rfl (E0 x)) hc
      · exact opOk3_quiet _ (by intro x t hd _; cases hd; exact T12 x) (fun _ => rfl) fun x d w' hd hc => sv (run_nilP rfl (E11 x)) hc
      · exact opOk3_quiet _ (by intro x t hd _; cases hd; exact T13 x) (fun _ => rfl) fun x d w' hd hc => sv (run_fldT rfl (E12 x) (fun _ => by kernel_rfl)) hc
      · exact opOk3_quietL _ (by intro x t hd _; cases hd; exact T14 x) (fun _ => rfl) fun x d w' hd hn hc => sv (run_load1 rfl (E13 x) (hB2.out _ (ClR.m (by have n := hn 15 (by kernel_rfl); rw [n] at hc; exact hc)))) hc
      · exact opOk3_quiet _ (by intro x t hd _; cases hd; exact T15 x) (fun _ => rfl) fun x d w' hd hc => sv (run_mov rfl (E5 x)) hc
      · exact opOk3_quiet _ (by intro x t hd _; cases hd; exact T16 x) (fun _ => rfl) fun x d w' hd hc => sv (run_mov rfl (E0 x)) hc
      · exact opOk3_quiet _ (by intro x t hd _; cases hd; exact T17 x) (fun _ => rfl) fun x d w' hd hc => sv (run_nilP rfl (E16 x)) hc
      · exact opOk3_quiet _ (by intro x t hd _; cases hd; exact T18 x) (fun _ => rfl) fun x d w' hd hc => sv (run_fldT rfl (E17 x) (fun _ => by kernel_rfl)) hc
      · exact opOk3_quietL _ (by intro x t hd _; cases hd; exact T19 x) (fun _ => rfl) fun x d w' hd hn hc => sv (run_load1 rfl (E18 x) (hB2.out _ (ClR.m (by have n := hn 15 (by kernel_rfl); rw [n] at hc; exact hc)))) hc
      · exact opOk3_quiet _ (by intro x t hd _; cases hd; exact T20 x) (fun _ => rfl) fun x d w' hd hc => sv (run_mov rfl (E5 x)) hc
      · exact opOk3_quiet _ (by intro x t hd _; cases hd; exact T21 x) (fun _ => rfl) fun x d w' hd hc => sv (run_ixRs0 rfl (E19 x) (E20 x) hlt) hc
      · exact opOk3_quietL _ (by intro x t hd _; cases hd; exact T22 x) (fun _ => rfl) fun x d w' hd hn hc => sv (run_load1 rfl (E21 x) (hRi.out _ (ClR.m (by have n := hn 15 (by kernel_rfl); rw [n] at hc; exact hc)))) hc
      · exact opOk3_quiet _ (by intro x t hd _; cases hd; exact T23 x) (fun _ => rfl) fun x d w' hd hc => sv (run_mov rfl (E1 x)) hc
      · exact opOk3_loud rfl fun x d w' hd hn hc => by
            have n2 : d 15 = false := hn 15 (by kernel_rfl)
            rw [n2] at hc
            have hm := hc.m
            refine sk (run_callW6 rfl (E22 x) (E23 x)) ((hput.out w' hm).mono ?_)
            rintro e w'' ⟨⟨q, dd, rfl, h2, h3, h4⟩, hb⟩
            refine ⟨_, rfl, (q, dd), (by rw [hAF.out]; exact agree_any (by kernel_rfl) (by kernel_rfl)), (by intro t hd _; cases hd; exact T24 _), ?_⟩
            show ClR M _ w _ true (d 15) _
            rw [n2]
            exact ClR.call hm hb h3 h2 h4
      · exact opOk3_quiet _ (by intro x t hd _; cases hd; exact T25 x) (fun _ => rfl) fun x d w' hd hc => sv (run_ixRs0 rfl (E14 x) (E15 x) hlt) hc
      · exact opOk3_loud rfl fun x d w' hd hn hc => by
            have n1 : d 13 = true := hd 13 (by kernel_rfl)
            have n2 : d 15 = false := hn 15 (by kernel_rfl)
            rw [n1, n2] at hc
            have hm := hc.m
            refine sk_s (run_storeS rfl (E25 x) (E24 x) (hck.out w' hm) (hfz.out w' hm)) ⟨x, agree_same _ _, (by intro t hd _; cases hd), ?_⟩
            show ClR M _ w _ (d 13) true _
            rw [n1]
            exact hc.put
    · intro x d w' hd hc
      simp only [putAll, List.foldl_cons, List.foldl_nil, List.cons_append, List.nil_append, Act.put, List.setIfInBounds_toArray, List.set_cons_succ, List.set_cons_zero]
      rw [hd 13 (by decide), hd 15 (by decide)] at hc
      obtain ⟨W4, hm4, hx, hW5⟩ := hc
      obtain ⟨q, dq⟩ := x
      obtain ⟨hE, hcap, hf⟩ := hx rfl
      dsimp only at hE hcap hf hW5 ⊢
      replace hW5 : w' = W4.setCell ⟨gR, i, none⟩ (.slice q M.length dq) := hW5
      have hm5 := (Mod.refl (· = gR) W4).setCell (p := ⟨gR, i, none⟩) (fun _ => rfl) (.slice q M.length dq)
      rw [← hW5] at hm5
      obtain ⟨C, hC⟩ := htb.out
      have hC4 := hC.mod hm4 (fun h => h)
      have hT5 := hset.out C W4 hm4 hC4 q dq
      have hC5 := hC4.set i (.slice q M.length dq)
      rw [← hW5] at hT5 hC5
      have hall : Mod (· = gR) w w' := (hm4.mono (fun _ _ h => h.elim)).trans hm5
      have hnx := hH.out.next (i := i) (l := M) (q := q) (d := dq) hall hi hT5 ⟨_, hC5⟩
        (els_modP hE hm5 (fun a ha h0 e => (by have := hf (fun h => h0 (by rw [h]; rfl)) a ha; have : a.block = gR := e; omega)))
        hcap (fun h0 a ha => ⟨(hf h0 a ha).1, Nat.lt_of_lt_of_le (hf h0 a ha).2 hm5.size⟩)
      have hfin := Lib.hid (show RplAt w' (fun k => F k ∨ (w.heap.size ≤ k ∧ k < w'.heap.size)) b gR fl (rows.set i M) t from ⟨qF, dF, qT, dT, _, hnx⟩)
      replace hall := Lib.hid hall
      clear hE hcap hf hW5 hm5 hC hC4 hT5 hC5 hm4 hx hd hH hset hck hfz hput htb hnx hB2 hRi
      go_wp2_with fail
      go_ret
      exact ⟨rfl, hfin.out, hall.out⟩
end Go.Proofs.YtdmnoogppmckaaaGreat
