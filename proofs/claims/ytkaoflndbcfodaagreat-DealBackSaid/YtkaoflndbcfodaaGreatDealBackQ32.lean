/-
  The row 'DealBack': a pack of the texts Dwt28 Sb28 Bi28 Dbk28 Da2, pruned to what the row uses.
-/
import Derived.Test.YtkaoflndbcfodaaGreatDealBackQ31
namespace Go.Proofs.YtkaoflndbcfodaaGreat
section
open Go.RowKit
theorem BoR.holds {w : World} {B0 : Nat} {t : List Rq} {gB : Nat} {CB : Array Value} {L : List Pc} {d gP cP : Nat} {qK : Option Addr} {cK dd gR : Nat} {F : Nat → Prop} {fls : List (List Ve)} {Rs : List (List Rou2)} {H : List Int} {qF : Option Addr} {cF : Nat} {pf : List (Option Addr × Nat)} {cR : Nat} {pr : List (Option Addr × Nat)} {qss : List (List (Option Addr × Nat))} {qT : Option Addr} {cT : Nat} {qH : Option Addr} {cH : Nat}
  (h : BoR w B0 t gB CB L d gP cP qK cK dd gR F fls Rs H qF cF pf cR pr qss qT cT qH cH) : HoldsR (rwsL L) H ∧ ∀ r, r < H.length → 0 ≤ H.getD r 0 ∧ H.getD r 0 < (L.length : Int) := by
 have h1 := rsH_holds h.ok.new (by rw [h.ok.tl]; exact h.ok.hl) h.ok.ok
 have h2 : HoldsR (rwsL L) H := holdsR_of (by rw [rsH_len]; unfold rwsL; rw [List.length_map]; exact h.len.symm) (fun c => by
  rw [rwsL_at, ← h.ok.rs]
  by_cases hc : c < fls.length
  ·exact (h.eq c hc).2.1.symm
  ·rw [h.ok.rs, List.getD_eq_getElem?_getD, List.getElem?_eq_none (by rw [rsH_len]; omega), List.getD_eq_getElem?_getD, List.getElem?_eq_none (by rw [h.len]; omega)]
   rfl) h1
 exact ⟨h2, fun r hr => by have := (h2 r hr).1; unfold rwsL at this; rw [List.length_map] at this; exact this⟩
end
section
open Go.RowKit
theorem back_of {l : List (Int × Int)} (hR : Rou l) {s : Int × Int} (hs : s ∈ l) : ∃ i j : Nat, i ≤ j ∧ j ≤ (woP l s.1).length ∧ withL (woP l s.1) s.1 i j = l := by
 obtain ⟨_, _, hsub⟩ := rou_mem hR hs
 generalize s.1 = r at *
 unfold sub pd at hsub
 obtain ⟨a, l2, e1, ha, _, h2⟩ := List.filter_eq_cons_iff.1 hsub
 obtain ⟨b, c, e2, hb, _, hc⟩ := List.filter_eq_cons_iff.1 h2
 have hc' : ∀ x ∈ c, x.1 ≠ r := fun x hx => by
  have := (List.filter_eq_nil_iff.1 hc) x hx
  simpa using this
 have ha' : ∀ x ∈ a, x.1 ≠ r := fun x hx => by simpa using ha x hx
 have hb' : ∀ x ∈ b, x.1 ≠ r := fun x hx => by simpa using hb x hx
 subst e2
 subst e1
 have hw : woP (a ++ (r, 0) :: (b ++ (r, 1) :: c)) r = a ++ (b ++ c) := by
  have e1 : ∀ q, woP ((r, 0) :: q) r = woP q r := fun q => by unfold woP; simp
  have e2 : ∀ q, woP ((r, 1) :: q) r = woP q r := fun q => by unfold woP; simp
  rw [woP_append, e1, woP_append, e2, woP_none ha', woP_none hb', woP_none hc']
 rw [hw]
 refine ⟨a.length, a.length + b.length, by omega, by simp, ?_⟩
 unfold withL
 simp
theorem prcK_no {fl : List Ve} {rows : List Rou2} {t : List Rq} {req : Int} : ∀ n, prcK fl rows t req n = none → ∀ i, i < n → (bestV (fl.getD i ve0) (rows.getD i []) t req).2 ≠ 0
 | 0, _, i, h => absurd h (Nat.not_lt_zero _)
 | n + 1, h, i, hi => by
  unfold prcK at h
  by_cases e : (bestV (fl.getD n ve0) (rows.getD n []) t req).2 ≠ 0
  ·rw [if_pos e] at h
   by_cases ei : i = n
   ·subst ei; exact e
   ·exact prcK_no n h i (by omega)
  ·rw [if_neg e] at h
   cases hk : prcK fl rows t req n with
   | none => rw [hk] at h; cases h
   | some p =>
    rw [hk] at h
    dsimp only at h
    by_cases h2 : p.2 ≤ (bestV (fl.getD n ve0) (rows.getD n []) t req).1.2.2
    ·rw [if_pos h2] at h; cases h
    ·rw [if_neg h2] at h; cases h
theorem back_bid {fl : List Ve} {rows : List Rou2} {t : List Rq} (hP : PlnOk fl rows t) {r : Int} (hw : 0 ≤ whereP rows r) (hr : 0 ≤ r ∧ r < t.length) : (prcP fl (ptakP rows r).1 t r).2.2 = 0 := by
 have hP2 := take_keeps hP r
 have hw2 : whereP (ptakP rows r).1 r < 0 := by
  rcases Int.lt_or_le (whereP (ptakP rows r).1 r) 0 with h | h
  ·exact h
  ·exact absurd rfl ((take_where hP r).1 h).1
 unfold prcP
 rw [if_neg (by omega), if_neg (by omega)]
 cases hk : prcK fl (ptakP rows r).1 t r fl.length with
 | some p => rfl
 | none =>
  obtain ⟨i, hi, e, s, hs, es⟩ := where_some hw
  have hif : i < fl.length := by rw [← hP.len]; exact hi
  have hno := prcK_no _ hk i hif
  have hg : rows.getD i [] = rows[i] := by rw [List.getD_eq_getElem?_getD, List.getElem?_eq_getElem hi]; rfl
  have hR := hP.right i hif
  have hR2 := hP2.right i hif
  have eg : (ptakP rows r).1.getD i [] = woP rows[i] r := by
   unfold ptakP
   rw [if_neg (by omega), e]
   show (rows.set i (woP (rows.getD i []) r)).getD i [] = _
   rw [List.getD_eq_getElem?_getD, List.getElem?_set, if_pos rfl, if_pos hi, hg]
   rfl
  rw [eg] at hno hR2
  rw [hg] at hR
  obtain ⟨a, b, hab, hbl, hwo⟩ := back_of hR.2.2.2.1 hs
  rw [es] at hbl hwo
  have hn : ∀ s ∈ woP rows[i] r, s.1 ≠ r := fun s hs => by
   unfold woP at hs
   have := (List.mem_filter.1 hs).2
   simpa using this
  exact absurd (by rw [hwo]; exact hR) (best_no hR2 hr hn hno a b hab hbl)
theorem holds_sold {L L' : List Pc} {H : List Int} {t : List Rq} {h c r : Nat} (hho : HoldsR (rwsL L) H) (hP : ∀ i, i < L.length → PlnOk (L.getD i pc0).fl (L.getD i pc0).rows t) (hr : r < H.length) (hh : H.getD r 0 = (h : Int)) (hne : h ≠ c) (hc : c < L.length)
  (h0 : (pputP (L.getD c pc0).fl (L.getD c pc0).rows t (r : Int)).2.2 = 0) (hl : L'.length = L.length) (hrow : ∀ i, i < L.length → (L'.getD i pc0).rows = sellR t L h c (r : Int) i) : HoldsR (rwsL L') (H.set r (c : Int)) := by
 have hlr : ∀ M : List Pc, (rwsL M).length = M.length := fun M => by unfold rwsL; rw [List.length_map]
 intro q hq
 rw [List.length_set] at hq
 have eH : (H.set r (c : Int)).getD q 0 = if r = q then (c : Int) else H.getD q 0 := by
  rw [List.getD_eq_getElem?_getD, List.getElem?_set, List.getD_eq_getElem?_getD]
  by_cases e : r = q
  ·rw [if_pos e, if_pos e, if_pos hr]; rfl
  ·rw [if_neg e, if_neg e]
 obtain ⟨v, hv⟩ := hho q hq
 rw [eH, hlr, hl]
 rw [hlr] at v
 refine ⟨by by_cases e : r = q <;> simp only [e, if_true, if_false] <;> omega, fun k => ?_⟩
 rw [rwsL_at]
 by_cases hk : k < L.length
 ·have hvk := hv k
  rw [rwsL_at] at hvk
  rw [hrow k hk]
  unfold sellR
  rw [if_neg (by omega)]
  by_cases ekc : k = c
  ·subst ekc
   rw [if_pos rfl, put_where (hP k hk) h0]
   by_cases e : r = q
   ·rw [if_pos e]
    exact ⟨fun _ => rfl, fun _ => .inl (by rw [e])⟩
   ·rw [if_neg e, ← hvk]
    exact ⟨fun h => h.resolve_left (by omega), .inr⟩
  ·rw [if_neg ekc]
   by_cases ekh : k = h
   ·rw [if_pos ekh, take_where (hP k hk)]
    by_cases e : r = q
    ·rw [if_pos e]
     exact ⟨fun h => absurd (by rw [e]) h.1, fun h => absurd h (by omega)⟩
    ·rw [if_neg e, ← hvk]
     exact ⟨fun h => h.2, fun h => ⟨by omega, h⟩⟩
   ·rw [if_neg ekh, hvk]
    by_cases e : r = q
    ·subst e
     rw [if_pos rfl, hh]
     omega
    ·rw [if_neg e]
 ·have e1 : (L'.getD k pc0).rows = [] := by
   rw [List.getD_eq_getElem?_getD, List.getElem?_eq_none (by omega)]
   rfl
  rw [e1]
  refine ⟨fun h => absurd (show (0 : Int) ≤ -1 from h) (by omega), fun h => ?_⟩
  exfalso
  by_cases e : r = q
  ·rw [if_pos e] at h; omega
  ·rw [if_neg e] at h; omega
theorem set_back {H : List Int} {r : Nat} {x y : Int} (hr : r < H.length) (h : H.getD r 0 = y) : (H.set r x).set r y = H := by
 rw [List.set_set]
 apply List.ext_getElem?
 intro j
 rw [List.getElem?_set]
 by_cases e : r = j
 ·subst e
  rw [if_pos rfl, if_pos hr, List.getElem?_eq_getElem hr]
  rw [List.getD_eq_getElem?_getD, List.getElem?_eq_getElem hr] at h
  rw [← h]
  rfl
 ·rw [if_neg e]
end
section
open Go.RowKit
set_option maxHeartbeats 1000000 in
set_option maxRecDepth 100000 in
theorem ints28_calls (p q : Option Addr) (c d : Nat) (A B : List Int) (w : World) (hA : Els w p 1 (A.map inV)) (hB : Els w q 1 (B.map inV)) :
  Calls Tryz.prog 25 #[.slice p A.length c, .slice q B.length d] w fun e w' => e = .returned (.bool (decide (A = B))) ∧ Below w.heap.size w w' := by
 have hbig : A.length ≤ 140737488351232 := by simpa using hA.big
 have hbig2 : B.length ≤ 140737488351232 := by simpa using hB.big
 replace hA := Lib.hid hA
 replace hB := Lib.hid hB
 by_cases hl : A.length = B.length
 ·have hX : Hid (decide (A = B) = true ↔ ∀ k (h1 : k < A.length) (h2 : k < B.length), A[k] = B[k]) := Lib.hid ⟨fun h k h1 h2 => by have e := of_decide_eq_true h; subst e; rfl, fun h => decide_eq_true (List.ext_getElem hl (fun k h1 h2 => h k h1 h2))⟩
  generalize decide (A = B) = X at *
  go_enter Tryz.func25, Tryz.ntmps25
  rw [← hl]
  replace hl := Lib.hid hl
  go_wp2_with fail
  go_loopw [5] (fun s5 wx => ∃ k : Nat, k ≤ A.length ∧ s5 = .int .i64 k ∧ Hid (∀ j (h1 : j < A.length) (h2 : j < B.length), j < k → A[j] = B[j]) ∧ ∃ m, wx = w.drewN m) (fun s5 _ => A.length - (intOf s5).toNat)
  case atStart => exact ⟨0, Nat.zero_le _, rfl, Lib.hid (fun j _ _ h => by omega), 0, rfl⟩
  case round =>
   obtain ⟨k, hk, rfl, hR, m, rfl⟩ := hrel
   by_cases hlt : k < A.length
   ·have hltI : (k : Int) < (A.length : Int) := by omega
    have hk0 : (0 : Int) ≤ (k : Int) := by omega
    have s1 : IntKind.i64.wrap ((k : Int) + 1) = (k : Int) + 1 := IntWalk.i64_in _ (by omega)
    have hlb : k < B.length := by rw [← hl.out]; exact hlt
    obtain ⟨a, ha⟩ := hA.out.some_of (k := k) (by simpa using hlt)
    subst ha
    obtain ⟨b, hb⟩ := hB.out.some_of (k := k) (by simpa using hlb)
    subst hb
    have ca : ∀ n, (w.drewN n).cell? (a.add k) = some (.int .i64 A[k]) := fun n => by
     have := hA.out.cells a rfl k (inV A[k]) 0 (.int .i64 A[k]) (by rw [List.getElem?_map, List.getElem?_eq_getElem hlt]; rfl) rfl
     rw [Nat.mul_one, Nat.add_zero] at this
     exact this
    have cb : ∀ n, (w.drewN n).cell? (b.add k) = some (.int .i64 B[k]) := fun n => by
     have := hB.out.cells b rfl k (inV B[k]) 0 (.int .i64 B[k]) (by rw [List.getElem?_map, List.getElem?_eq_getElem hlb]; rfl) rfl
     rw [Nat.mul_one, Nat.add_zero] at this
     exact this
    have hno : Hid (A[k] ≠ B[k] → X = false) := Lib.hid (fun h => by
     cases X with
     | false => rfl
     | true => exact absurd (hX.out.1 rfl k hlt hlb) h)
    have hR' : Hid (A[k] = B[k] → ∀ j (h1 : j < A.length) (h2 : j < B.length), j < k + 1 → A[j] = B[j]) := Lib.hid (fun h j h1 h2 hj => by
     by_cases e : j = k
     ·subst e; exact h
     ·exact hR.out j h1 h2 (by omega))
    replace ca := Lib.hid ca
    replace cb := Lib.hid cb
    clear hR
    generalize A[k] = x at *
    generalize B[k] = y at *
    obtain ⟨g, hg⟩ : ∃ g, (x != y) = g := ⟨_, rfl⟩
    replace hg := Lib.hid hg
    go_upto_region 6 with fail
    refine wp_region_quiet_lit (by kernel_rfl) (by kernel_rfl) ?_
    iterate 3 (go_big_quiet_step (fail))
    refine wpQuiet_v rfl (.int .i64 x) (by rintro _ ⟨j, rfl⟩; rw [World.drewN_drewN]; exact run_load_v rfl rfl (run_i64 (ca.out _))) ?_
    simp only [Act.put, List.setIfInBounds_toArray, List.set_cons_succ, List.set_cons_zero]
    iterate 3 (go_big_quiet_step (fail))
    refine wpQuiet_v rfl (.int .i64 y) (by rintro _ ⟨j, rfl⟩; rw [World.drewN_drewN]; exact run_load_v rfl rfl (run_i64 (cb.out _))) ?_
    simp only [Act.put, List.setIfInBounds_toArray, List.set_cons_succ, List.set_cons_zero]
    go_big_quiet_step (fail)
    refine wpQuiet_nil ?_
    rintro _ ⟨j, rfl⟩
    rw [World.drewN_drewN, hg.out]
    cases g with
    | true =>
     obtain rfl : X = false := hno.out (by simpa using hg.out)
     clear hno hR' hX ca cb
     go_wp2
     go_ret
     exact ⟨rfl, below_drewN (Below.refl _ _) _⟩
    | false =>
     have hR2 := Lib.hid (hR'.out (by simpa using hg.out))
     clear hno hR' ca cb
     go_wp2_with fail
     go_roundw
     case rel => exact ⟨k + 1, by omega, by simp, hR2, _, rfl⟩
     case measure => simp [intOf]; omega
   ·obtain rfl : X = true := hX.out.2 (fun j h1 h2 => hR.out j h1 h2 (by omega))
    clear hX hR
    go_wp2
    go_ret
    exact ⟨rfl, below_drewN (Below.refl _ _) _⟩
 ·have hX : decide (A = B) = false := decide_eq_false (fun e => hl (by rw [e]))
  rw [hX]
  have n1 : ((A.length : Int) != (B.length : Int)) = true := by simpa using (show ¬ (A.length : Int) = (B.length : Int) by omega)
  have n2 : (A.length != B.length) = true := by simpa using hl
  go_enter Tryz.func25, Tryz.ntmps25
  go_wp2
  go_ret
  exact ⟨rfl, Below.refl _ _⟩
theorem ints28_E (p q : Option Addr) (c d : Nat) (A : List Int) (w : World) (hA : Els w p 1 (A.map inV)) (hB : Els w q 1 (A.map inV)) :
  Calls Tryz.prog 25 #[.slice p A.length c, .slice q A.length d] w fun e w' => e = .returned (.bool true) ∧ Below w.heap.size w w' := by
 have := ints28_calls p q c d A A w hA hB
 rwa [decide_eq_true rfl] at this
def bidP (fl : List Ve) (rows : List Rou2) (t : List Rq) (req : Int) : Int := if (prcP fl rows t req).2.2 ≠ 0 then 4294967296 else (prcP fl rows t req).2.1
theorem rise_bd {fl : List Ve} {rows : List Rou2} {t : List Rq} (hP : PlnOk fl rows t) {req : Int} (h : (prcP fl rows t req).2.2 = 0) :
  0 ≤ (prcP fl rows t req).2.1 ∧ (prcP fl rows t req).2.1 ≤ 4194304 ∧ (pputP fl rows t req).2.1 = (prcP fl rows t req).2.1 ∧ (pputP fl rows t req).2.2 = 0 := by
 obtain ⟨i, a, b, hi, hab, hbl, _, hr, hw, hR, h0, _, e1, e2⟩ := put_ok hP h
 have ht := put_tot hP req
 have h1 := totK_bd hP fl.length (Nat.le_refl _)
 have h2 := totK_bd (put_keeps hP req) fl.length (Nat.le_refl _)
 have hm := hP.many
 rw [e2] at ht h2 ⊢
 rw [e1]
 unfold totP at ht
 dsimp only at ht h2 ⊢
 refine ⟨h0, ?_, rfl, rfl⟩
 omega
theorem bid_calls {B : Nat} {w : World} {t : List Rq} {p : Pc} (h : PcAt B w t p) (req : Int) (hq : wf64 req) :
  Calls Tryz.prog 20 #[.pointer (some ⟨p.b, 0, none⟩), .int .i64 req] w fun e w' => e = .returned (.int .u64 (bidP p.fl p.rows t req)) ∧ Below w.heap.size w w' := by
 have hp := Lib.hid (price_calls h.1 req hq)
 have hb : (prcP p.fl p.rows t req).2.2 = 0 → IntKind.u64.wrap (prcP p.fl p.rows t req).2.1 = (prcP p.fl p.rows t req).2.1 := fun e => by
  have := rise_bd h.2.1 e
  exact IntWalk.u64_in _ (by omega)
 unfold bidP
 obtain ⟨x, y, e, hX⟩ : ∃ x y e, prcP p.fl p.rows t req = (x, y, e) := ⟨_, _, _, rfl⟩
 rw [hX] at hp hb ⊢
 dsimp only at hp hb ⊢
 clear hX h
 obtain ⟨z, hz⟩ : ∃ z, (if e ≠ 0 then (4294967296 : Int) else y) = z := ⟨_, rfl⟩
 rw [hz]
 replace hz := Lib.hid hz
 go_enter Tryz.func20, Tryz.ntmps20
 go_wp2_with fail
 refine hp.out.mono ?_
 clear hp
 rintro e w2 ⟨rfl, hb2⟩
 by_cases he : e = 0
 ·subst he
  have hw := hb rfl
  obtain rfl : y = z := by have := hz.out; rwa [if_neg (by omega)] at this
  clear hz hb
  go_wp2_with fail
  go_ret
  exact ⟨rfl, hb2⟩
 ·obtain rfl : 4294967296 = z := by have := hz.out; rwa [if_pos he] at this
  clear hz hb
  have d1 : (e == 0) = false := beq_eq_false_iff_ne.2 he
  have d2 : (e != 0) = true := by rw [bne, d1]; rfl
  go_wp2_with fail
  go_ret
  exact ⟨rfl, hb2⟩
end
section
section
open Go.RowKit
section
variable {ρ : Operand → Value} {o : Oper} {w : World} {x y : Operand}
theorem run_ixA2 {b k : Nat} (ho : o.op = .indexAddr 66 x y) (hx : ρ x = .pointer (some ⟨b, 0, none⟩)) (hy : ρ y = .int .i64 k) (hk : k < 2) : (execOp ρ o).run Tryz.prog w = .ok (.value (.pointer (some ⟨b, k, none⟩))) w := by
 have h0 : k = 0 ∨ k = 1 := by omega
 unfold execOp
 simp only [ho, hx, hy]
 rcases h0 with rfl | rfl
 ·go_simp
 ·go_simp
theorem run_u8A {p : Addr} {n : Int} (hc : w.cell? p = some (.int .u8 n)) : (loadVar 5 p).run Tryz.prog w = .ok (.int .u8 n) w := by go_simp
theorem run_cvA {n : Int} (ho : o.op = .convert 5 3 x) (hx : ρ x = .int .u8 n) (hn : 0 ≤ n ∧ n < 256) : (execOp ρ o).run Tryz.prog w = .ok (.value (.int .i64 n)) w := by
 have h1 : IntKind.i64.wrap n = n := IntWalk.i64_in _ (by omega)
 unfold execOp
 simp only [ho, hx]
 go_simp
end
theorem blk_ne28 {w : World} {g : Nat} {C1 C2 : Array Value} {T1 T2 : TypeId} (h1 : Blk w g C1 T1) (h2 : Blk w g C2 T2) (hT : T1 ≠ T2) : False := by
 have e1 : w.heap[g]? = some (.cells C1 T1 (0, 0)) := h1
 have e2 : w.heap[g]? = some (.cells C2 T2 (0, 0)) := h2
 rw [e1] at e2
 cases e2
 exact hT rfl
theorem keep28 {w w' : World} {L : List Pc} {qK q : Option Addr} {R : List (List Value)} (hm : Mod (fun k => (∃ i, i < L.length ∧ (L.getD i pc0).F k) ∨ ∃ a, qK = some a ∧ k = a.block) w w') (h : Els w q 1 R)
  (hF : ∀ a, q = some a → (∀ i, i < L.length → ¬ (L.getD i pc0).F a.block) ∧ ∀ b, qK = some b → a.block ≠ b.block) : Els w' q 1 R := els_modP h hm (fun a ha _ hk => by
 obtain ⟨f1, f2⟩ := hF a ha
 rcases hk with ⟨i, hi, hk⟩ | ⟨b, hb, hk⟩
 ·exact f1 i hi hk
 ·exact f2 b hb hk)
set_option maxHeartbeats 8000000 in
set_option maxRecDepth 100000 in
theorem DealBack_walk (p pw : Option Addr) (cp cw : Nat) (B W : List Int) (n wd k nn a0 a1 : Int) (w : World) (hA : DrA w p B n wd) (hW : DrA w pw W 0 0) (hnn : 0 ≤ nn ∧ nn < 256) (h0 : 0 ≤ a0 ∧ a0 < 256) (h1 : 0 ≤ a1 ∧ a1 < 256) :
  Calls Tryz.prog 8 #[.agg (ddC p cp B n wd k pw W cw nn), .agg #[.int .u8 a0, .int .u8 a1]] w fun e w' => e = .returned (.bool true) ∧ Below w.heap.size w w' := by
 have hbo := Lib.hid (fun wx (hb : Below w.heap.size w wx) => both_calls p pw cp cw B W n wd k nn wx (hA.below hb) (hW.below hb) hnn)
 obtain ⟨C, hC⟩ : ∃ C, ddC p cp B n wd k pw W cw nn = C := ⟨_, rfl⟩
 have hc6 : C.size = 6 := by rw [← hC]; rfl
 rw [hC] at hbo ⊢
 clear hA hW hnn hC
 have hb0 := (new_below w (.cells C 26)).alloc (by simp) (.cells #[.int .u8 a0, .int .u8 a1] 66)
 go_enter Tryz.func8, Tryz.ntmps8
 go_upto_region 1 with fail
 refine wp_world' (fun wx => Blk wx w.heap.size C 26 ∧ Blk wx (w.heap.size + 1) #[.int .u8 a0, .int .u8 a1] 66 ∧ Below w.heap.size w wx) ⟨(Blk.new _ _ _).alloc _, blk_newAtC (by simp) _ _, hb0⟩ ?_
 clear hb0
 rintro w1 ⟨hB, hBW, hb⟩
 go_wp2_with fail
 refine (works28_calls w1).mono ?_
 rintro e w2 ⟨rfl, hb2⟩
 have hm2 := (Mod.refl (fun _ => False) _).after hb2
 have hB2 := hB.mod hm2 (fun h => h)
 replace hBW := hBW.mod hm2 (fun h => h)
 replace hb2 := hb.trans (hb2.mono hb.size)
 have hl1 := Lib.hid (run_load_row' (P := Tryz.prog) w2 w.heap.size 26 C 26 _ hB2 Tryz.underlying26 rfl (by rw [hc6]; kernel_rfl))
 have hd1 := hbo.out w2 hb2
 clear hB hb hB2 hbo hm2
 go_wp2_with (refine wpList_load_v rfl 26 _ rfl ⟨w.heap.size, 0, none⟩ rfl _ hl1.out ?_)
 refine hd1.mono ?_
 clear hd1 hl1
 rintro e w3 ⟨hb3, B0, t, gB, cB, CB, L, d, gP, cP, qK, cK, dd, gR, F, fls, Rs, H, qF, cF, pf, cR, pr, qss, qT, cT, qH, cH, hB0, rfl, hR⟩
 have hbw := hb2.trans (hb3.mono hb2.size)
 have hB0w : w.heap.size ≤ B0 := Nat.le_trans hb2.size hB0
 replace hBW := hBW.mod ((Mod.refl (fun _ => False) _).after hb3) (fun h => h)
 clear hb2 hb3
 obtain ⟨hho, hv⟩ := hR.holds
 have hH8 := hR.ok.hl
 have hLn := hR.len
 have hn4 := hR.ok.many
 have hlo := hR.lo
 obtain ⟨Ln, hLl⟩ : ∃ Ln, L.length = Ln := ⟨_, rfl⟩
 obtain ⟨Hn, hHn⟩ : ∃ Hn, H.length = Hn := ⟨_, rfl⟩
 rw [hHn] at hH8
 have hLn4 : 1 ≤ Ln ∧ Ln ≤ 4 := by omega
 have hl3 := Lib.hid (run_cI28 (hR.rd.box.cell (i := 3) rfl))
 have hon := Lib.hid (downers_calls hR.dl)
 rw [hHn] at hl3
 rw [hLl]
 replace hho := Lib.hid hho
 replace hv := Lib.hid hv
 replace hbw := Lib.hid hbw
 replace hLl := Lib.hid hLl
 replace hHn := Lib.hid hHn
 replace hLn := Lib.hid hLn
 replace hR := Lib.hid hR
 replace hBW := Lib.hid hBW
 by_cases hH0 : Hn = 0
 ·have hH0I : ((Hn : Int) == 0) = true := by rw [hH0]; rfl
  replace hH0 := Lib.hid hH0
  go_wp2_with (refine wpList_load_v rfl 35 _ rfl ⟨dd, 3, none⟩ rfl _ hl3.out ?_)
  refine hon.out.mono ?_
  clear hon hl3
  rintro e w4 ⟨hb4, q, c, rfl, -, -, -⟩
  have hb5 := Lib.hid (hbw.out.trans (hb4.mono hbw.out.size))
  clear hb4 hbw
  rw [hHn.out]
  go_wp2_with fail
  go_ret
  exact ⟨rfl, hb5.out⟩
 ·have hH0I : ((Hn : Int) == 0) = false := beq_eq_false_iff_ne.2 (by omega)
  have hm0 : (0 : Int) < (Hn : Int) := by omega
  have hmb : (Hn : Int) ≤ 9223372036854775807 := by omega
  have hL0 : (0 : Int) < (Ln : Int) := by omega
  have hLb : (Ln : Int) ≤ 9223372036854775807 := by omega
  obtain ⟨r, hrE⟩ : ∃ r : Nat, (r : Int) = a0 % (Hn : Int) := ⟨(a0 % (Hn : Int)).toNat, by have := Int.emod_nonneg a0 (show (Hn : Int) ≠ 0 by omega); omega⟩
  have hrH : r < Hn := by have := Int.emod_lt_of_pos a0 hm0; omega
  obtain ⟨c, hcE⟩ : ∃ c : Nat, (c : Int) = a1 % (Ln : Int) := ⟨(a1 % (Ln : Int)).toNat, by have := Int.emod_nonneg a1 (show (Ln : Int) ≠ 0 by omega); omega⟩
  have hcL : c < Ln := by have := Int.emod_lt_of_pos a1 hL0; omega
  replace hrE := Lib.hid hrE
  replace hcE := Lib.hid hcE
  have hc0 := Lib.hid (fun wx (hm : Mod (fun _ => False) w3 wx) => run_u8A ((hBW.out.mod hm (fun h => h)).cell (i := 0) (v := .int .u8 a0) rfl))
  have hc1 := Lib.hid (fun wx (hm : Mod (fun _ => False) w3 wx) => run_u8A ((hBW.out.mod hm (fun h => h)).cell (i := 1) (v := .int .u8 a1) rfl))
  have hl3z := Lib.hid (fun wx (hm : Mod (fun _ => False) w3 wx) => (by
   have := run_cI28 ((hR.out.rd.box.mod hm (fun h => h)).cell (i := 3) rfl)
   rwa [hHn.out] at this : (loadVar 35 ⟨dd, 3, none⟩).run Tryz.prog wx = .ok (.slice qH Hn cH) wx))
  go_upto_region 8 with (refine wpList_load_v rfl 35 _ rfl ⟨dd, 3, none⟩ rfl _ hl3.out ?_)
  refine wp_region_later (w0 := w3) (S := fun _ => False) (Mod.refl _ _) (by kernel_rfl) (by kernel_rfl) ?_
  refine wpQuiet_v rfl (.pointer (some ⟨w.heap.size + 1, 0, none⟩)) (by rintro _ ⟨z, rfl⟩; exact run_ixA2 (k := 0) rfl rfl rfl (by decide)) ?_
  simp only [Act.put, List.setIfInBounds_toArray, List.set_cons_succ, List.set_cons_zero]
  refine wpQuiet_v rfl (.int .u8 a0) (by rintro _ ⟨z, rfl⟩; exact run_load_v rfl rfl (hc0.out _ z.mod)) ?_
  simp only [Act.put, List.setIfInBounds_toArray, List.set_cons_succ, List.set_cons_zero]
  refine wpQuiet_v rfl (.int .i64 a0) (by rintro _ ⟨z, rfl⟩; exact run_cvA rfl rfl h0) ?_
  simp only [Act.put, List.setIfInBounds_toArray, List.set_cons_succ, List.set_cons_zero]
  iterate 3 (go_big_quiet_step (fail))
  refine wpQuiet_v rfl (.slice qH Hn cH) (by rintro _ ⟨z, rfl⟩; exact run_load_v rfl rfl (hl3z.out _ z.mod)) ?_
  simp only [Act.put, List.setIfInBounds_toArray, List.set_cons_succ, List.set_cons_zero]
  go_big_quiet_step (fail)
  refine wpQuiet_v rfl (.int .i64 (r : Int)) (by rintro _ ⟨z, rfl⟩; exact run_remD rfl rfl rfl h0.1 hm0 hrE.out hmb) ?_
  simp only [Act.put, List.setIfInBounds_toArray, List.set_cons_succ, List.set_cons_zero]
  refine wpQuiet_v rfl (.pointer (some ⟨w.heap.size + 1, 1, none⟩)) (by rintro _ ⟨z, rfl⟩; exact run_ixA2 (k := 1) rfl rfl rfl (by decide)) ?_
  simp only [Act.put, List.setIfInBounds_toArray, List.set_cons_succ, List.set_cons_zero]
  refine wpQuiet_v rfl (.int .u8 a1) (by rintro _ ⟨z, rfl⟩; exact run_load_v rfl rfl (hc1.out _ z.mod)) ?_
  simp only [Act.put, List.setIfInBounds_toArray, List.set_cons_succ, List.set_cons_zero]
  refine wpQuiet_v rfl (.int .i64 a1) (by rintro _ ⟨z, rfl⟩; exact run_cvA rfl rfl h1) ?_
  simp only [Act.put, List.setIfInBounds_toArray, List.set_cons_succ, List.set_cons_zero]
  iterate 2 (go_big_quiet_step (fail))
  refine wpQuiet_v rfl (.int .i64 (c : Int)) (by rintro _ ⟨z, rfl⟩; exact run_remD rfl rfl rfl h1.1 hL0 hcE.out hLb) ?_
  simp only [Act.put, List.setIfInBounds_toArray, List.set_cons_succ, List.set_cons_zero]
  iterate 2 (go_big_quiet_step (fail))
  refine wpQuiet_nil ?_
  rintro _ ⟨z, rfl⟩
  have hz4 := Lib.hid z.mod
  generalize z.val = w4 at *
  have hb34 : Below w3.heap.size w3 w4 := hz4.out.below (Nat.le_refl _) (fun _ h => h.elim)
  clear hc0 hc1 hl3z hl3 hon
  have hrHL : r < H.length := by rw [hHn.out]; exact hrH
  have hcLL : c < L.length := by rw [hLl.out]; exact hcL
  obtain ⟨v1, v2⟩ := hv.out r hrHL
  obtain ⟨f, hf⟩ := Int.eq_ofNat_of_zero_le v1
  rw [hf] at v2
  have hfL : f < L.length := by omega
  have hhd := dholder_calls (hR.out.dl.below hb34) (r : Int)
  rw [if_neg (by omega), Int.toNat_natCast, hf] at hhd
  have hon4 := Lib.hid (downers_calls (hR.out.dl.below hb34))
  replace hf := Lib.hid hf
  replace hhd := Lib.hid hhd
  replace hb34 := Lib.hid hb34
  clear v1 hz4
  go_wp2_with fail
  refine hhd.out.mono ?_
  clear hhd
  rintro e w5 ⟨rfl, rfl⟩
  go_wp2_with fail
  refine hon4.out.mono ?_
  clear hon4
  rintro e w5 ⟨hb45, q, cq, rfl, hEq, -, hq⟩
  have hb35 := hb34.out.trans (hb45.mono hb34.out.size)
  have hbw5 := Lib.hid (hbw.out.trans (hb35.mono hbw.out.size))
  have hsz5 := hb35.size
  have hdl5 := hR.out.dl.below hb35
  have hpc5 := hR.out.pcs.below hb35
  have hpl5 := Lib.hid (hR.out.pls.below hb35)
  have hq4 := hb34.out.size
  replace hEq := Lib.hid hEq
  replace hq := Lib.hid hq
  clear hb34 hb45 hb35 hbw
  by_cases hfc : f = c
  ·have hs18 := Lib.hid (dsell_18 (c : Int) hrHL (by omega) (by rw [hf.out, hfc]) hdl5)
   have hon5 := Lib.hid (fun wx (hb : Below w5.heap.size w5 wx) => downers_calls (hdl5.below hb))
   clear hdl5 hpc5 hpl5
   go_wp2_with fail
   refine hs18.out.mono ?_
   clear hs18
   rintro e w6 ⟨rfl, hb6⟩
   have hon6 := hon5.out w6 hb6
   have hb7 := hbw5.out.trans (hb6.mono hbw5.out.size)
   have hE6 := Lib.hid (hEq.out.below hb6)
   clear hon5 hEq hb6
   replace hb7 := Lib.hid hb7
   go_wp2_with fail
   refine hon6.mono ?_
   clear hon6
   rintro e w8 ⟨hb8, q2, c2, rfl, hE8, -, -⟩
   have hin := Lib.hid (ints28_E q2 q c2 cq H w8 hE8 (hE6.out.below hb8))
   have hb9 := Lib.hid (hb7.out.trans (hb8.mono hb7.out.size))
   clear hE8 hE6 hb8
   go_wp2_with fail
   refine hin.out.mono ?_
   clear hin
   rintro e w9 ⟨rfl, hb10⟩
   have hb11 := Lib.hid (hb9.out.trans (hb10.mono hb9.out.size))
   clear hb10
   go_wp2_with fail
   go_ret
   exact ⟨rfl, hb11.out⟩
  ·have hH0n : H ≠ [] := fun e => by rw [e] at hrHL; simp at hrHL
   obtain ⟨gH, CH, hqK, hBH⟩ := hdl5.hb hH0n
   subst hqK
   have hokL : Hid (∀ i, i < L.length → PlnOk (L.getD i pc0).fl (L.getD i pc0).rows t) := Lib.hid (fun i hi => (hpc5.get hi).2.1)
   have hBB5 : B0 ≤ w5.heap.size := Nat.le_trans hlo.2.2.2.1 hsz5
   have hNs : ∀ i, i < L.length → (L.getD i pc0).N ≤ 8 := fun i hi => (hR.out.eq i (by rw [← hLn.out]; exact hi)).2.2
   have hsl := Lib.hid (dsell_go hdl5 hpc5 hBB5 hrHL hcLL hfL hf.out hfc (by have := hNs c hcLL; omega))
   have hgHl := Nat.le_trans hlo.2.2.2.1 (Nat.le_refl w3.heap.size)
   have hFl : ∀ i, i < L.length → ∀ k, (L.getD i pc0).F k → B0 ≤ k ∧ k < w3.heap.size := fun i hi k hk => ⟨(hpc5.get hi).2.2 k hk, (hR.out.pcs.get hi).own.2.2.2 k hk⟩
   have hgK : B0 ≤ gH ∧ gH < w3.heap.size := by
    obtain ⟨g2, C2, e2, hB2⟩ := hR.out.dl.hb hH0n
    cases e2
    exact ⟨hR.out.loK _ rfl hH0n, hB2.lt⟩
   have hgBK : gB ≠ gH := fun e => by
    obtain ⟨g2, C2, e2, hB2⟩ := hR.out.dl.hb hH0n
    cases e2
    subst e
    exact blk_ne28 hR.out.blk hB2 (by decide)
   have hqa : ∀ a, q = some a → w3.heap.size ≤ a.block ∧ a.block < w5.heap.size := fun a ha => ⟨Nat.le_trans hq4 (hq.out a ha), by
    have := hEq.out
    rw [ha] at this
    have h9 := World.block_lt_of_cell? w5 (a.add r) (inv_cell28 this hrHL)
    rwa [show (a.add r).block = a.block from by unfold Addr.add; split <;> rfl] at h9⟩
   have hgB3 : gB < w3.heap.size := hR.out.blk.lt
   obtain ⟨y, hy⟩ : ∃ y, (pputP (L.getD c pc0).fl (L.getD c pc0).rows t (r : Int)).2.1 = y := ⟨_, rfl⟩
   obtain ⟨z, hz⟩ : ∃ z, (pputP (L.getD c pc0).fl (L.getD c pc0).rows t (r : Int)).2.2 = z := ⟨_, rfl⟩
   have hfin : Hid (∀ e w', SoldPost B0 w5 t d L H gP cP (some ⟨gH, 0, none⟩) cK f c r e w' → e = .returned (.tuple #[.int .i64 y, .int .i64 z]) ∧ ∃ L' : List Pc, PcsAt B0 w' t L' ∧ DlIn w' d L' (if z ≠ 0 then H else H.set r (c : Int)) gP cP (some ⟨gH, 0, none⟩) cK ∧ L'.length = L.length ∧
     (∀ i, i < L.length → ((L'.getD i pc0).b = (L.getD i pc0).b ∧ (L'.getD i pc0).fl = (L.getD i pc0).fl ∧ (L'.getD i pc0).N ≤ 9) ∧ (L'.getD i pc0).rows = sellR t L f c (r : Int) i ∧ ∀ k, (L'.getD i pc0).F k → (L.getD i pc0).F k ∨ w5.heap.size ≤ k) ∧
     Els w' q 1 (H.map inV) ∧ Els w' (some ⟨gB, 0, none⟩) 1 (L.map ptrR) ∧ Below w.heap.size w w' ∧ w5.heap.size ≤ w'.heap.size) := Lib.hid (fun e w' hS => by
    obtain ⟨e1, L', g1, g2, g3, g4, g5⟩ := hS
    rw [hy, hz] at e1
    rw [hz] at g2
    refine ⟨e1, L', g1, g2, g3, fun i hi => ?_, keep28 g5 hEq.out (fun a ha => ⟨fun i hi hk => ?_, fun b hb e => ?_⟩), keep28 g5 hpl5.out (fun a ha => ⟨fun i hi hk => ?_, fun b hb e => ?_⟩), hbw5.out.trans (g5.below hbw5.out.size (fun k hk => ?_)), g5.size⟩
    ·obtain ⟨⟨a1, a2, a3⟩, a4, a5⟩ := g4 i hi
     exact ⟨⟨a1, a2, by have := hNs i hi; omega⟩, a4, a5⟩
    ·have := hFl i hi _ hk
     have := hqa a ha
     omega
    ·cases hb
     have := hqa a ha
     simp only at e
     omega
    ·cases ha
     exact hR.out.nB _ (mem_getD hi) hk
    ·cases ha
     cases hb
     exact hgBK e
    ·rcases hk with ⟨i, hi, hk⟩ | ⟨a, ha, rfl⟩
     ·have := hFl i hi k hk
      omega
     ·cases ha
      simp only
      omega)
   clear hdl5 hpc5 hEq hpl5 hBH
   go_wp2_with fail
   refine hsl.out.mono ?_
   clear hsl
   intro e w6 hS
   obtain ⟨rfl, L', hP6, hD6, hl6, hr6, hE6, hpl6, hb6, hs6⟩ := hfin.out e w6 hS
   replace hb6 := Lib.hid hb6
   clear hfin hS hbw5
   by_cases hz0 : z = 0
   ·subst hz0
    rw [if_neg (fun e => e rfl)] at hD6
    have hokf := hokL.out f hfL
    have hwf : 0 ≤ whereP (L.getD f pc0).rows (r : Int) := by
     have := ((hho.out r hrHL).2 f).2 hf.out.symm
     rwa [rwsL_at] at this
    have hrt : r < t.length := by have := hR.out.ok.tl; omega
    have hho6 := Lib.hid (holds_sold hho.out hokL.out hrHL hf.out hfc hcLL hz hl6 (fun i hi => (hr6 i hi).2.1))
    obtain ⟨⟨b1, b2, b3⟩, b4, b5⟩ := hr6 f hfL
    have hrf : (L'.getD f pc0).rows = (ptakP (L.getD f pc0).rows (r : Int)).1 := by
     rw [b4]
     unfold sellR
     rw [hz, if_neg (fun e => e rfl), if_neg hfc, if_pos rfl]
    have hcode : (prcP (L'.getD f pc0).fl (L'.getD f pc0).rows t (r : Int)).2.2 = 0 := by
     rw [b2, hrf]
     exact back_bid hokf hwf ⟨by omega, by omega⟩
    have hfL6 : f < L'.length := by rw [hl6]; exact hfL
    have hcL6 : c < L'.length := by rw [hl6]; exact hcLL
    have hok6 : Hid (∀ i, i < L'.length → PlnOk (L'.getD i pc0).fl (L'.getD i pc0).rows t) := Lib.hid (fun i hi => (hP6.get hi).2.1)
    have hri := rise_bd (hok6.out f hfL6) hcode
    have hbid := bid_calls (hP6.get hfL6) (r : Int) (by unfold wf64; omega)
    unfold bidP at hbid
    rw [if_neg (by omega), b1] at hbid
    have hcP := Lib.hid (run_cellPl (ptr_cell28 hpl6 hfL))
    have hpc7 := hri.2.2.2
    obtain ⟨v, hv6⟩ : ∃ v, (prcP (L'.getD f pc0).fl (L'.getD f pc0).rows t (r : Int)).2.1 = v := ⟨_, rfl⟩
    rw [hv6] at hbid
    have hvb : 0 ≤ v ∧ v ≤ 4194304 := by rw [← hv6]; exact ⟨hri.1, hri.2.1⟩
    have dv : (v == 4294967296) = false := beq_eq_false_iff_ne.2 (by omega)
    have dv2 : (v != 4294967296) = true := by rw [bne, dv]; rfl
    obtain ⟨bf, hbf⟩ : ∃ bf, (L.getD f pc0).b = bf := ⟨_, rfl⟩
    rw [hbf] at hbid hcP
    have hsetl : (H.set r (c : Int)).length = H.length := List.length_set
    have hgr : (H.set r (c : Int)).getD r 0 = (c : Int) := by
     rw [List.getD_eq_getElem?_getD, List.getElem?_set, if_pos rfl, if_pos hrHL]
     rfl
    have hBB6 : B0 ≤ w6.heap.size := Nat.le_trans hBB5 hs6
    have hS7 := Lib.hid (fun wx (hb : Below w6.heap.size w6 wx) => dsell_go (hD6.below hb) (hP6.below hb) (Nat.le_trans hBB6 hb.size) (r := r) (h := c) (c := f) (by rw [hsetl]; exact hrHL) hfL6 hcL6 hgr (fun e => hfc e.symm) (by omega))
    replace hE6 := Lib.hid hE6
    replace hpl6 := Lib.hid hpl6
    replace hr6 := Lib.hid hr6
    replace hcode := Lib.hid hcode
    replace hpc7 := Lib.hid hpc7
    replace hbf := Lib.hid hbf
    replace hP6 := Lib.hid hP6
    replace hD6 := Lib.hid hD6
    replace hgr := Lib.hid hgr
    replace hsetl := Lib.hid hsetl
    replace hrf := Lib.hid hrf
    replace hv6 := Lib.hid hv6
    clear hri b1 b2 b3 b4 b5 dv hokf hwf hz
    have hfLn : f < Ln := by rw [← hLl.out]; exact hfL
    have hcLn : c < Ln := by rw [← hLl.out]; exact hcLL
    go_wp2_with (first | (refine wpList_v rfl (.pointer (some ((⟨gB, 0, none⟩ : Addr).add f))) (run_ixPl (k := f) rfl rfl rfl hfLn) ?_) | (refine wpList_load_v rfl 42 _ rfl ((⟨gB, 0, none⟩ : Addr).add f) rfl _ hcP.out ?_))
    refine hbid.mono ?_
    rintro e w7 ⟨rfl, hb67⟩
    have hS := hS7.out w7 hb67
    have hE7 := hE6.out.below hb67
    have hpl7 := hpl6.out.below hb67
    have hbw7 := hb6.out.trans (hb67.mono hb6.out.size)
    have hs67 := hb67.size
    clear hbid hcP hS7 hE6 hpl6 hb6 hb67
    have hfin : Hid (∀ e w', SoldPost B0 w7 t d L' (H.set r (c : Int)) gP cP (some ⟨gH, 0, none⟩) cK c f r e w' → e = .returned (.tuple #[.int .i64 v, .int .i64 0]) ∧ ∃ L2 : List Pc, PcsAt B0 w' t L2 ∧ DlIn w' d L2 H gP cP (some ⟨gH, 0, none⟩) cK ∧ L2.length = L.length ∧
      (∀ i, i < L.length → (L2.getD i pc0).b = (L.getD i pc0).b) ∧ HoldsR (rwsL L2) H ∧ Els w' q 1 (H.map inV) ∧ Els w' (some ⟨gB, 0, none⟩) 1 (L.map ptrR) ∧ Below w.heap.size w w') := Lib.hid (fun e w' hS => by
     obtain ⟨e1, L2, g1, g2, g3, g4, g5⟩ := hS
     have hri := rise_bd (hok6.out f hfL6) hcode.out
     rw [hri.2.2.2, hri.2.2.1, hv6.out] at e1
     rw [hri.2.2.2, if_neg (fun e => e rfl), set_back hrHL hf.out] at g2
     have hh := holds_sold hho6.out hok6.out (by rw [hsetl.out]; exact hrHL) hgr.out (fun e => hfc e.symm) hfL6 hri.2.2.2 g3 (fun i hi => (g4 i hi).2.1)
     rw [set_back hrHL hf.out] at hh
     have hF7 : ∀ i, i < L'.length → ∀ k, (L'.getD i pc0).F k → (L.getD i pc0).F k ∨ w5.heap.size ≤ k := fun i hi => (hr6.out i (by rw [← hl6]; exact hi)).2.2
     refine ⟨e1, L2, g1, g2, by rw [g3, hl6], fun i hi => ((g4 i (by rw [hl6]; exact hi)).1.1).trans (hr6.out i hi).1.1, hh, keep28 g5 hE7 (fun a ha => ⟨fun i hi hk => ?_, fun b hb e => ?_⟩), keep28 g5 hpl7 (fun a ha => ⟨fun i hi hk => ?_, fun b hb e => ?_⟩), hbw7.trans (g5.below hbw7.size (fun k hk => ?_))⟩
     ·have h9 := hqa a ha
      rcases hF7 i hi _ hk with hk | hk
      ·have := hFl i (by rw [← hl6]; exact hi) _ hk
       omega
      ·omega
     ·cases hb
      have := hqa a ha
      simp only at e
      omega
     ·cases ha
      rcases hF7 i hi _ hk with hk | hk
      ·exact hR.out.nB _ (mem_getD (by rw [← hl6]; exact hi)) hk
      ·simp only at hk
       omega
     ·cases ha
      cases hb
      exact hgBK e
     ·rcases hk with ⟨i, hi, hk⟩ | ⟨a, ha, rfl⟩
      ·rcases hF7 i hi _ hk with hk | hk
       ·have := hFl i (by rw [← hl6]; exact hi) k hk
        omega
       ·omega
      ·cases ha
       simp only
       omega)
    go_wp2_with fail
    refine hS.mono ?_
    intro e w8 hS8
    obtain ⟨rfl, L2, hP8, hD8, hl8, hb8p, hho8, hE8, hpl8, hbw8⟩ := hfin.out e w8 hS8
    have hfL8 : f < L2.length := by rw [hl8]; exact hfL
    have hcL8 : c < L2.length := by rw [hl8]; exact hcLL
    obtain ⟨bc, hbc⟩ : ∃ bc, (L.getD c pc0).b = bc := ⟨_, rfl⟩
    have wc : decide (0 ≤ whereP (L2.getD c pc0).rows (r : Int)) = false := decide_eq_false (fun h9 => by
     have := ((hho8 r hrHL).2 c).1 (by rw [rwsL_at]; exact h9)
     rw [hf.out] at this
     omega)
    have wf : decide (0 ≤ whereP (L2.getD f pc0).rows (r : Int)) = true := decide_eq_true (by
     have := ((hho8 r hrHL).2 f).2 hf.out.symm
     rwa [rwsL_at] at this)
    have hasc := Lib.hid (fun wx (hb : Below w8.heap.size w8 wx) => (by
     have := has_calls ((hP8.get hcL8).below hb).1 (r : Int) (by unfold wf64; omega)
     rw [hb8p c hcLL, hbc, wc] at this
     exact this : Calls Tryz.prog 22 #[.pointer (some ⟨bc, 0, none⟩), .int .i64 (r : Int)] wx fun e w' => e = .returned (.bool false) ∧ wx = w'))
    have hasf := Lib.hid (fun wx (hb : Below w8.heap.size w8 wx) => (by
     have := has_calls ((hP8.get hfL8).below hb).1 (r : Int) (by unfold wf64; omega)
     rw [hb8p f hfL, hbf.out, wf] at this
     exact this : Calls Tryz.prog 22 #[.pointer (some ⟨bf, 0, none⟩), .int .i64 (r : Int)] wx fun e w' => e = .returned (.bool true) ∧ wx = w'))
    have hcc := Lib.hid (fun wx (hb : Below w8.heap.size w8 wx) => (by
     have := run_cellPl (ptr_cell28 (hpl8.below hb) hcLL)
     rwa [hbc] at this : (loadVar 42 ((⟨gB, 0, none⟩ : Addr).add c)).run Tryz.prog wx = .ok (.pointer (some ⟨bc, 0, none⟩)) wx))
    have hcf := Lib.hid (fun wx (hb : Below w8.heap.size w8 wx) => (by
     have := run_cellPl (ptr_cell28 (hpl8.below hb) hfL)
     rwa [hbf.out] at this : (loadVar 42 ((⟨gB, 0, none⟩ : Addr).add f)).run Tryz.prog wx = .ok (.pointer (some ⟨bf, 0, none⟩)) wx))
    have hon8 := downers_calls hD8
    replace hE8 := Lib.hid hE8
    replace hbw8 := Lib.hid hbw8
    clear hfin hS hS8 hE7 hpl7 hbw7 hP8 hD8 hho8 hpl8 wc wf hbc
    go_wp2_with fail
    refine hon8.mono ?_
    clear hon8
    rintro e w9 ⟨hb9, q2, c2, rfl, hE9, -, -⟩
    have hin := Lib.hid (ints28_E q2 q c2 cq H w9 hE9 (hE8.out.below hb9))
    replace hb9 := Lib.hid hb9
    clear hE9 hE8
    go_wp2_with fail
    refine hin.out.mono ?_
    clear hin
    rintro e wA ⟨rfl, hbA⟩
    have hb8A := hb9.out.trans (hbA.mono hb9.out.size)
    have hbwA := Lib.hid (hbw8.out.trans (hb8A.mono hbw8.out.size))
    have l1 := Lib.hid (hcc.out wA hb8A)
    have l2 := Lib.hid (hcf.out wA hb8A)
    have k1 := Lib.hid (hasc.out wA hb8A)
    have k2 := Lib.hid (hasf.out wA hb8A)
    clear hcc hcf hasc hasf hbA hb8A hb9 hbw8
    go_wp2_with (first | (refine wpList_v rfl (.pointer (some ((⟨gB, 0, none⟩ : Addr).add c))) (run_ixPl (k := c) rfl rfl rfl hcLn) ?_) | (refine wpList_load_v rfl 42 _ rfl ((⟨gB, 0, none⟩ : Addr).add c) rfl _ l1.out ?_))
    refine k1.out.mono ?_
    clear k1 l1
    rintro e wB ⟨rfl, rfl⟩
    go_wp2_with (first | (refine wpList_v rfl (.pointer (some ((⟨gB, 0, none⟩ : Addr).add f))) (run_ixPl (k := f) rfl rfl rfl hfLn) ?_) | (refine wpList_load_v rfl 42 _ rfl ((⟨gB, 0, none⟩ : Addr).add f) rfl _ l2.out ?_))
    refine k2.out.mono ?_
    clear k2 l2
    rintro e wC ⟨rfl, rfl⟩
    go_wp2_with fail
    go_ret
    exact ⟨rfl, hbwA.out⟩
   ·have d1 : (z == 0) = false := beq_eq_false_iff_ne.2 hz0
    have d2 : (z != 0) = true := by rw [bne, d1]; rfl
    rw [if_pos hz0] at hD6
    have hon6 := downers_calls hD6
    replace hE6 := Lib.hid hE6
    clear hD6 hP6 hr6 hpl6 hz
    go_wp2_with fail
    refine hon6.mono ?_
    clear hon6
    rintro e w8 ⟨hb8, q2, c2, rfl, hE8, -, -⟩
    have hin := Lib.hid (ints28_E q2 q c2 cq H w8 hE8 (hE6.out.below hb8))
    have hb9 := Lib.hid (hb6.out.trans (hb8.mono hb6.out.size))
    clear hE8 hE6 hb8
    go_wp2_with fail
    refine hin.out.mono ?_
    clear hin
    rintro e w9 ⟨rfl, hb10⟩
    have hb11 := Lib.hid (hb9.out.trans (hb10.mono hb9.out.size))
    clear hb10
    go_wp2_with fail
    go_ret
    exact ⟨rfl, hb11.out⟩
end
end
section
open Go.ChangeShapes Go.WideShapes Go.ChangeAt Go.RowKit
set_option maxRecDepth 100000 in
theorem arg_two28 {H : Type} {enc : TypeId × Value → H} {W : World} {base : Nat} {v : Value} {d : DataW H} {q : List MemPlace} (hv : Value.okWide Tryz.prog W .any base 66 v) (h : DataW.Trod enc Tryz.prog W 0 (fun _ => true) true 66 v d q) :
  ∃ a b : Int, (0 ≤ a ∧ a < 256) ∧ (0 ≤ b ∧ b < 256) ∧ v = .agg #[.int .u8 a, .int .u8 b] := by
 have hc : Tryz.prog.cellsOf 66 = 2 := by kernel_rfl
 obtain ⟨C, rfl, hsz0⟩ := okWide_array Tryz.underlying66 hv
 obtain ⟨fuel, hf⟩ := h
 obtain ⟨N, hN⟩ := open_ints Tryz.underlying66 Tryz.underlying5 (by kernel_rfl) hf
 have h0 := hN 0 (by omega)
 have h1 := hN 1 (by omega)
 refine ⟨N 0, N 1, u8_of h0.2, u8_of h1.2, ?_⟩
 have e : C = [Value.int .u8 (N 0), .int .u8 (N 1)].toArray := agg_eq (by rw [hsz0, hc]; rfl) (fun j v hj => by
  match j with
  | 0 => cases hj; exact h0.1
  | 1 => cases hj; exact h1.1
  | j + 2 => simp at hj)
 rw [e]
end
end Go.Proofs.YtkaoflndbcfodaaGreat
