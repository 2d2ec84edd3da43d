/-
  The document's layer 7: Wrong.
-/
import Derived.Test.YtcdpiemkbefcoaaTmR
import Derived.Test.YtcdpiemkbefcoaaApp
namespace Go.Proofs.Ytcdpiemkbefcoaa
open Go.RowKit

/-- what is wrong with what is handed in -/
def wrP (x y cp st en : Int) (l : List (Int × Int)) (t : List Rq) : Int :=
  if vehCode x y cp st en ≠ 0 then 2 else if t.any (fun q => rqE q != 0) then 2 else if chkP l ≠ 0 then 8 else if l.any (fun s => !ptB s t) then 8 else 0

set_option maxHeartbeats 2000000 in
set_option maxRecDepth 100000 in
theorem wrong7_ref (x y cp st en : Int) (p p' : Option Addr) (c c' : Nat) (l : List (Int × Int)) (t : List Rq) (w : World) (hL : Els w p 2 (l.map stV)) (hc : l.length ≤ c ∧ c ≤ 9223372036854775807) (hT : Els w p' 10 (t.map rqV)) :
    Calls Try.prog 80 #[.agg #[.int .i64 x, .int .i64 y, .int .i64 cp, .int .i64 st, .int .i64 en], .slice p l.length c, .slice p' t.length c'] w fun e w' => e = .returned (.int .i64 (wrP x y cp st en l t)) ∧ Below w.heap.size w w' := by
  have hbl : l.length ≤ 140737488351232 := by simpa using hL.big
  have hbt : t.length ≤ 140737488351232 := by simpa using hT.big
  have hX : wrP x y cp st en l t = if vehCode x y cp st en ≠ 0 then 2 else if t.any (fun q => rqE q != 0) then 2 else if chkP l ≠ 0 then 8 else if l.any (fun s => !ptB s t) then 8 else 0 := rfl
  have hv := Lib.hid (fun w => vehicle_ref x y cp st en w)
  have hk := Lib.hid (fun wx (h : Below w.heap.size w wx) => (by
    have := rcheck_ref p c l wx (hL.below h) hc
    rwa [chk_one] at this : Calls Try.prog 98 #[.slice p l.length c] wx fun e w' => e = .returned (.int .i64 (chkP l)) ∧ Below wx.heap.size wx w'))
  have hp := Lib.hid (fun wx (r k : Int) (h : Below w.heap.size w wx) => place7_ref p' c' t r k wx (hT.below h))
  have hq := Lib.hid (fun w (q : Rq) => chk_ref (q 0) (q 1) (q 2) (q 3) (q 4) (q 5) (q 6) (q 7) (q 8) (q 9) w)
  generalize wrP x y cp st en l t = X at hX ⊢
  generalize vehCode x y cp st en = ve at hX hv
  generalize chkP l = ck at hX hk
  replace hX := Lib.hid hX
  replace hL := Lib.hid hL
  replace hT := Lib.hid hT
  have hlv := Lib.hid (fun wx (h : Blk wx w.heap.size #[.int .i64 x, .int .i64 y, .int .i64 cp, .int .i64 st, .int .i64 en] 28) => run_load_row' (P := Try.prog) wx w.heap.size 28 #[.int .i64 x, .int .i64 y, .int .i64 cp, .int .i64 st, .int .i64 en] 28 _ h Try.underlying28 rfl (by kernel_rfl))
  go_enter Try.func80, Try.ntmps80
  go_upto_region 1 with fail
  refine wp_world' (fun wx => Blk wx w.heap.size #[.int .i64 x, .int .i64 y, .int .i64 cp, .int .i64 st, .int .i64 en] 28 ∧ Below w.heap.size w wx) ⟨Blk.new _ _ _, new_below _ _⟩ ?_
  rintro w1 ⟨hB, hb⟩
  have hlv1 := Lib.hid (hlv.out _ hB)
  clear hB hlv
  go_wp2_with (refine wpList_load_v rfl 28 _ rfl ⟨w.heap.size, 0, none⟩ rfl _ hlv1.out ?_)
  refine (hv.out _).mono ?_
  rintro e w2 ⟨rfl, hb2⟩
  replace hb2 := hb.trans (hb2.mono hb.size)
  clear hlv1 hv hb
  by_cases v0 : ve = 0
  · subst v0
    go_wp2_with fail
    go_loopw [7] (fun i wr => ∃ k : Nat, k ≤ t.length ∧ i = .int .i64 k ∧ Hid (∀ j q, j < k → t[j]? = some q → rqE q = 0) ∧ Below w.heap.size w wr) (fun i _ => t.length - (intOf i).toNat)
    case atStart => exact ⟨0, Nat.zero_le _, rfl, Lib.hid (fun j q h => by omega), hb2⟩
    case round =>
      obtain ⟨k, hkl, rfl, hR, hbr⟩ := hrel
      by_cases hlt : k < t.length
      · have hltI : (k : Int) < (t.length : Int) := by omega
        have s1 : IntKind.i64.wrap ((k : Int) + 1) = (k : Int) + 1 := IntWalk.i64_in _ (by omega)
        obtain ⟨a, rfl⟩ := (hT.out.below hbr).some_of (k := k) (by simpa using hlt)
        have hla := Lib.hid ((hT.out.below hbr).load (P := Try.prog) (a := a) rfl (k := k) (by simpa using hlt) (ty := 47) Try.underlying47 rfl (by kernel_rfl))
        rw [List.getElem_map] at hla
        have htk : t[k]? = some t[k] := List.getElem?_eq_getElem hlt
        generalize t[k] = q at hla htk
        have hqq : Hid (rqCode (q 0) (q 1) (q 2) (q 3) (q 4) (q 5) (q 6) (q 7) (q 8) (q 9) = rqE q) := Lib.hid rfl
        have hcq := Lib.hid (hq.out wr q)
        rw [hqq.out] at hcq
        have hbad : Hid (rqE q ≠ 0 → X = 2) := Lib.hid (fun h => by
          rw [hX.out, if_neg (by simp), if_pos]
          rw [List.any_eq_true]
          exact ⟨q, List.mem_of_getElem? htk, by simpa using h⟩)
        have hok : Hid (rqE q = 0 → ∀ j q, j < k + 1 → t[j]? = some q → rqE q = 0) := Lib.hid (fun h j u hj hju => by
          by_cases e : j = k
          · subst e; rw [htk] at hju; cases hju; exact h
          · exact hR.out j u (by omega) hju)
        clear hR htk hqq
        generalize rqE q = rc at hcq hbad hok
        go_wp2_with (refine wpList_load_v rfl 47 _ rfl (a.add (k * 10)) rfl _ hla.out ?_)
        refine hcq.out.mono ?_
        rintro e w3 ⟨rfl, hb3⟩
        replace hb3 := hbr.trans (hb3.mono hbr.size)
        clear hla hcq hbr
        by_cases r0 : rc = 0
        · have hok' := Lib.hid (hok.out r0)
          subst r0
          clear hbad hok
          go_wp2_with fail
          go_roundw
          case rel => exact ⟨k + 1, by omega, by simp, hok', hb3⟩
          case measure => simp [intOf]; omega
        · obtain rfl : X = 2 := hbad.out r0
          have d1 : (rc == 0) = false := beq_eq_false_iff_ne.2 r0
          have d2 : (rc != 0) = true := by rw [bne, d1]; rfl
          clear hbad hok hX
          go_wp2_with fail
          go_ret
          exact ⟨rfl, hb3⟩
      · obtain rfl : k = t.length := by omega
        have hX2 : X = if ck ≠ 0 then 8 else if l.any (fun s => !ptB s t) then 8 else 0 := by
          rw [hX.out, if_neg (by simp), if_neg]
          rw [List.any_eq_true]
          rintro ⟨q, hq, hne⟩
          obtain ⟨j, hj, rfl⟩ := List.getElem_of_mem hq
          exact (by simpa using hne : rqE t[j] ≠ 0) (hR.out j _ hj (List.getElem?_eq_getElem hj))
        replace hX2 := Lib.hid hX2
        clear hX hR hq hT
        go_wp2_with fail
        refine (hk.out _ hbr).mono ?_
        rintro e w3 ⟨rfl, hb3⟩
        replace hb3 := hbr.trans (hb3.mono hbr.size)
        clear hbr hk
        by_cases c0 : ck = 0
        · subst c0
          go_wp2_with fail
          go_loopw [8] (fun i wr => ∃ k : Nat, k ≤ l.length ∧ i = .int .i64 k ∧ Hid (∀ j s, j < k → l[j]? = some s → ptB s t = true) ∧ Below w.heap.size w wr) (fun i _ => l.length - (intOf i).toNat)
          case atStart => exact ⟨0, Nat.zero_le _, rfl, Lib.hid (fun j q h => by omega), hb3⟩
          case round =>
            obtain ⟨k, hkl, rfl, hR, hbr⟩ := hrel
            by_cases hlt : k < l.length
            · have hltI : (k : Int) < (l.length : Int) := by omega
              have s1 : IntKind.i64.wrap ((k : Int) + 1) = (k : Int) + 1 := IntWalk.i64_in _ (by omega)
              obtain ⟨a, rfl⟩ := (hL.out.below hbr).some_of (k := k) (by simpa using hlt)
              have hla := Lib.hid ((hL.out.below hbr).load (P := Try.prog) (a := a) rfl (k := k) (by simpa using hlt) (ty := 55) Try.underlying55 rfl (by kernel_rfl))
              rw [List.getElem_map] at hla
              have htk : l[k]? = some l[k] := List.getElem?_eq_getElem hlt
              obtain ⟨r, q, hs⟩ : ∃ r q, l[k] = (r, q) := ⟨_, _, rfl⟩
              rw [hs] at hla htk
              have hcp := Lib.hid (hp.out wr r q hbr)
              have hbad : Hid (ptB (r, q) t = false → X = 8) := Lib.hid (fun h => by
                rw [hX2.out, if_neg (by simp), if_pos]
                rw [List.any_eq_true]
                exact ⟨_, List.mem_of_getElem? htk, by rw [h]; rfl⟩)
              have hok : Hid (ptB (r, q) t = true → ∀ j s, j < k + 1 → l[j]? = some s → ptB s t = true) := Lib.hid (fun h j u hj hju => by
                by_cases e : j = k
                · subst e; rw [htk] at hju; cases hju; exact h
                · exact hR.out j u (by omega) hju)
              clear hR htk hs
              generalize ptB (r, q) t = pb at hcp hbad hok
              generalize ptG (r, q) t = pg at hcp
              go_wp2_with (first | (refine wpList_load_v rfl 55 _ rfl (a.add (k * 2)) rfl _ hla.out ?_))
              refine hcp.out.mono ?_
              rintro e w4 ⟨rfl, hb4⟩
              replace hb4 := hbr.trans (hb4.mono hbr.size)
              clear hla hcp hbr
              cases pb with
              | true =>
                have hok' := Lib.hid (hok.out rfl)
                clear hbad hok
                go_upto_region 14 with (refine wpList_store_new rfl 26 _ _ rfl rfl rfl _ #[.int .i64 pg.x, .int .i64 pg.y] _ rfl rfl (pair_one _ _) (pl_size _ _) ?_)
                go_wp2_with fail
                go_roundw
                case rel => exact ⟨k + 1, by omega, by simp, hok', hb4.alloc hb4.size _⟩
                case measure => simp [intOf]; omega
              | false =>
                obtain rfl : X = 8 := hbad.out rfl
                clear hbad hok hX2
                go_upto_region 14 with (refine wpList_store_new rfl 26 _ _ rfl rfl rfl _ #[.int .i64 pg.x, .int .i64 pg.y] _ rfl rfl (pair_one _ _) (pl_size _ _) ?_)
                go_wp2_with fail
                go_ret
                exact ⟨rfl, hb4.alloc hb4.size _⟩
            · obtain rfl : k = l.length := by omega
              obtain rfl : X = 0 := by
                rw [hX2.out, if_neg (by simp), if_neg]
                rw [List.any_eq_true]
                rintro ⟨s, hs, hne⟩
                obtain ⟨j, hj, rfl⟩ := List.getElem_of_mem hs
                rw [hR.out j _ hj (List.getElem?_eq_getElem hj)] at hne
                cases hne
              clear hX2 hR
              go_wp2_with fail
              go_ret
              exact ⟨rfl, hbr⟩
        · obtain rfl : X = 8 := by rw [hX2.out, if_pos c0]
          have d1 : (ck == 0) = false := beq_eq_false_iff_ne.2 c0
          have d2 : (ck != 0) = true := by rw [bne, d1]; rfl
          clear hX2
          go_wp2_with fail
          go_ret
          exact ⟨rfl, hb3⟩
  · obtain rfl : X = 2 := by rw [hX.out, if_pos v0]
    have d1 : (ve == 0) = false := beq_eq_false_iff_ne.2 v0
    have d2 : (ve != 0) = true := by rw [bne, d1]; rfl
    clear hX
    go_wp2_with fail
    go_ret
    exact ⟨rfl, hb2⟩
end Go.Proofs.Ytcdpiemkbefcoaa
