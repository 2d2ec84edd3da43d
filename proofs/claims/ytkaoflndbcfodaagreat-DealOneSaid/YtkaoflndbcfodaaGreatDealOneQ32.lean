/-
  The row 'DealOne': a pack of the texts Dwt28 Sb28 Bi28 Dbk28 On28 Sa28 St28 Da3, pruned to what the row uses.
-/
import Derived.Test.YtkaoflndbcfodaaGreatDealOneQ31
namespace Go.Proofs.YtkaoflndbcfodaaGreat
section
open Go.RowKit
theorem BoR.holds {w : World} {B0 : Nat} {t : List Rq} {gB : Nat} {CB : Array Value} {L : List Pc} {d gP cP : Nat} {qK : Option Addr} {cK dd gR : Nat} {F : Nat → Prop} {fls : List (List Ve)} {Rs : List (List Rou2)} {H : List Int} {qF : Option Addr} {cF : Nat} {pf : List (Option Addr × Nat)} {cR : Nat} {pr : List (Option Addr × Nat)} {qss : List (List (Option Addr × Nat))} {qT : Option Addr} {cT : Nat} {qH : Option Addr} {cH : Nat}
  (h : BoR w B0 t gB CB L d gP cP qK cK dd gR F fls Rs H qF cF pf cR pr qss qT cT qH cH) : HoldsR (rwsL L) H ∧ ∀ r, r < H.length → 0 ≤ H.getD r 0 ∧ H.getD r 0 < (L.length : Int) := by
 have h1 := rsH_holds h.ok.new (by rw [h.ok.tl]; exact h.ok.hl) h.ok.ok
 have h2 : HoldsR (rwsL L) H := holdsR_of (by rw [rsH_len]; unfold rwsL; rw [List.length_map]; exact h.len.symm) (fun c => by
  rw [rwsL_at, ← h.ok.rs]
  by_cases hc : c < fls.length
  ·exact (h.eq c hc).2.1.symm
  ·rw [h.ok.rs, List.getD_eq_getElem?_getD, List.getElem?_eq_none (by rw [rsH_len]; omega), List.getD_eq_getElem?_getD, List.getElem?_eq_none (by rw [h.len]; omega)]
   rfl) h1
 exact ⟨h2, fun r hr => by have := (h2 r hr).1; unfold rwsL at this; rw [List.length_map] at this; exact this⟩
end
section
open Go.RowKit
theorem holds_sold {L L' : List Pc} {H : List Int} {t : List Rq} {h c r : Nat} (hho : HoldsR (rwsL L) H) (hP : ∀ i, i < L.length → PlnOk (L.getD i pc0).fl (L.getD i pc0).rows t) (hr : r < H.length) (hh : H.getD r 0 = (h : Int)) (hne : h ≠ c) (hc : c < L.length)
  (h0 : (pputP (L.getD c pc0).fl (L.getD c pc0).rows t (r : Int)).2.2 = 0) (hl : L'.length = L.length) (hrow : ∀ i, i < L.length → (L'.getD i pc0).rows = sellR t L h c (r : Int) i) : HoldsR (rwsL L') (H.set r (c : Int)) := by
 have hlr : ∀ M : List Pc, (rwsL M).length = M.length := fun M => by unfold rwsL; rw [List.length_map]
 intro q hq
 rw [List.length_set] at hq
 have eH : (H.set r (c : Int)).getD q 0 = if r = q then (c : Int) else H.getD q 0 := by
  rw [List.getD_eq_getElem?_getD, List.getElem?_set, List.getD_eq_getElem?_getD]
  by_cases e : r = q
  ·rw [if_pos e, if_pos e, if_pos hr]; rfl
  ·rw [if_neg e, if_neg e]
 obtain ⟨v, hv⟩ := hho q hq
 rw [eH, hlr, hl]
 rw [hlr] at v
 refine ⟨by by_cases e : r = q <;> simp only [e, if_true, if_false] <;> omega, fun k => ?_⟩
 rw [rwsL_at]
 by_cases hk : k < L.length
 ·have hvk := hv k
  rw [rwsL_at] at hvk
  rw [hrow k hk]
  unfold sellR
  rw [if_neg (by omega)]
  by_cases ekc : k = c
  ·subst ekc
   rw [if_pos rfl, put_where (hP k hk) h0]
   by_cases e : r = q
   ·rw [if_pos e]
    exact ⟨fun _ => rfl, fun _ => .inl (by rw [e])⟩
   ·rw [if_neg e, ← hvk]
    exact ⟨fun h => h.resolve_left (by omega), .inr⟩
  ·rw [if_neg ekc]
   by_cases ekh : k = h
   ·rw [if_pos ekh, take_where (hP k hk)]
    by_cases e : r = q
    ·rw [if_pos e]
     exact ⟨fun h => absurd (by rw [e]) h.1, fun h => absurd h (by omega)⟩
    ·rw [if_neg e, ← hvk]
     exact ⟨fun h => h.2, fun h => ⟨by omega, h⟩⟩
   ·rw [if_neg ekh, hvk]
    by_cases e : r = q
    ·subst e
     rw [if_pos rfl, hh]
     omega
    ·rw [if_neg e]
 ·have e1 : (L'.getD k pc0).rows = [] := by
   rw [List.getD_eq_getElem?_getD, List.getElem?_eq_none (by omega)]
   rfl
  rw [e1]
  refine ⟨fun h => absurd (show (0 : Int) ≤ -1 from h) (by omega), fun h => ?_⟩
  exfalso
  by_cases e : r = q
  ·rw [if_pos e] at h; omega
  ·rw [if_neg e] at h; omega
end
section
open Go.RowKit
def bidP (fl : List Ve) (rows : List Rou2) (t : List Rq) (req : Int) : Int := if (prcP fl rows t req).2.2 ≠ 0 then 4294967296 else (prcP fl rows t req).2.1
theorem rise_bd {fl : List Ve} {rows : List Rou2} {t : List Rq} (hP : PlnOk fl rows t) {req : Int} (h : (prcP fl rows t req).2.2 = 0) :
  0 ≤ (prcP fl rows t req).2.1 ∧ (prcP fl rows t req).2.1 ≤ 4194304 ∧ (pputP fl rows t req).2.1 = (prcP fl rows t req).2.1 ∧ (pputP fl rows t req).2.2 = 0 := by
 obtain ⟨i, a, b, hi, hab, hbl, _, hr, hw, hR, h0, _, e1, e2⟩ := put_ok hP h
 have ht := put_tot hP req
 have h1 := totK_bd hP fl.length (Nat.le_refl _)
 have h2 := totK_bd (put_keeps hP req) fl.length (Nat.le_refl _)
 have hm := hP.many
 rw [e2] at ht h2 ⊢
 rw [e1]
 unfold totP at ht
 dsimp only at ht h2 ⊢
 refine ⟨h0, ?_, rfl, rfl⟩
 omega
theorem put_code (fl : List Ve) (rows : List Rou2) (t : List Rq) (hP : PlnOk fl rows t) (req : Int) : (pputP fl rows t req).2.2 = (prcP fl rows t req).2.2 := by
 by_cases h : (prcP fl rows t req).2.2 = 0
 ·rw [(rise_bd hP h).2.2.2, h]
 ·rw [put_no h]
theorem bid_calls {B : Nat} {w : World} {t : List Rq} {p : Pc} (h : PcAt B w t p) (req : Int) (hq : wf64 req) :
  Calls Tryz.prog 20 #[.pointer (some ⟨p.b, 0, none⟩), .int .i64 req] w fun e w' => e = .returned (.int .u64 (bidP p.fl p.rows t req)) ∧ Below w.heap.size w w' := by
 have hp := Lib.hid (price_calls h.1 req hq)
 have hb : (prcP p.fl p.rows t req).2.2 = 0 → IntKind.u64.wrap (prcP p.fl p.rows t req).2.1 = (prcP p.fl p.rows t req).2.1 := fun e => by
  have := rise_bd h.2.1 e
  exact IntWalk.u64_in _ (by omega)
 unfold bidP
 obtain ⟨x, y, e, hX⟩ : ∃ x y e, prcP p.fl p.rows t req = (x, y, e) := ⟨_, _, _, rfl⟩
 rw [hX] at hp hb ⊢
 dsimp only at hp hb ⊢
 clear hX h
 obtain ⟨z, hz⟩ : ∃ z, (if e ≠ 0 then (4294967296 : Int) else y) = z := ⟨_, rfl⟩
 rw [hz]
 replace hz := Lib.hid hz
 go_enter Tryz.func20, Tryz.ntmps20
 go_wp2_with fail
 refine hp.out.mono ?_
 clear hp
 rintro e w2 ⟨rfl, hb2⟩
 by_cases he : e = 0
 ·subst he
  have hw := hb rfl
  obtain rfl : y = z := by have := hz.out; rwa [if_neg (by omega)] at this
  clear hz hb
  go_wp2_with fail
  go_ret
  exact ⟨rfl, hb2⟩
 ·obtain rfl : 4294967296 = z := by have := hz.out; rwa [if_pos he] at this
  clear hz hb
  have d1 : (e == 0) = false := beq_eq_false_iff_ne.2 he
  have d2 : (e != 0) = true := by rw [bne, d1]; rfl
  go_wp2_with fail
  go_ret
  exact ⟨rfl, hb2⟩
end
section
section
open Go.RowKit
section
variable {ρ : Operand → Value} {o : Oper} {w : World} {x y : Operand}
theorem run_u8A {p : Addr} {n : Int} (hc : w.cell? p = some (.int .u8 n)) : (loadVar 5 p).run Tryz.prog w = .ok (.int .u8 n) w := by go_simp
theorem run_cvA {n : Int} (ho : o.op = .convert 5 3 x) (hx : ρ x = .int .u8 n) (hn : 0 ≤ n ∧ n < 256) : (execOp ρ o).run Tryz.prog w = .ok (.value (.int .i64 n)) w := by
 have h1 : IntKind.i64.wrap n = n := IntWalk.i64_in _ (by omega)
 unfold execOp
 simp only [ho, hx]
 go_simp
end
theorem blk_ne28 {w : World} {g : Nat} {C1 C2 : Array Value} {T1 T2 : TypeId} (h1 : Blk w g C1 T1) (h2 : Blk w g C2 T2) (hT : T1 ≠ T2) : False := by
 have e1 : w.heap[g]? = some (.cells C1 T1 (0, 0)) := h1
 have e2 : w.heap[g]? = some (.cells C2 T2 (0, 0)) := h2
 rw [e1] at e2
 cases e2
 exact hT rfl
end
end
section
open Go.RowKit
theorem sold_tot {L : List Pc} {t : List Rq} {h c : Nat} {r : Int} (hP : ∀ i, i < L.length → PlnOk (L.getD i pc0).fl (L.getD i pc0).rows t) (hne : h ≠ c) {i : Nat} (hi : i < L.length) :
  (i = c → totP (L.getD i pc0).fl (sellR t L h c r i) t = totP (L.getD i pc0).fl (L.getD i pc0).rows t + (if (pputP (L.getD c pc0).fl (L.getD c pc0).rows t r).2.2 ≠ 0 then 0 else (pputP (L.getD c pc0).fl (L.getD c pc0).rows t r).2.1)) ∧
    (i = h → totP (L.getD i pc0).fl (sellR t L h c r i) t ≤ totP (L.getD i pc0).fl (L.getD i pc0).rows t) ∧ (i ≠ c → i ≠ h → sellR t L h c r i = (L.getD i pc0).rows) := by
 unfold sellR
 by_cases hz : (pputP (L.getD c pc0).fl (L.getD c pc0).rows t r).2.2 ≠ 0
 ·simp only [if_pos hz]
  exact ⟨fun _ => by omega, fun _ => Int.le_refl _, fun _ _ => trivial⟩
 ·simp only [if_neg hz]
  refine ⟨fun e => ?_, fun e => ?_, fun e1 e2 => by rw [if_neg e1, if_neg e2]⟩
  ·subst e
   rw [if_pos rfl]
   exact put_tot (hP i hi) r
  ·subst e
   rw [if_neg hne, if_pos rfl]
   exact take_tot (hP i hi) r
end
section
open Go.RowKit
def AnyPost (B : Nat) (w : World) (t : List Rq) (d : Nat) (L : List Pc) (H : List Int) (gP cP : Nat) (qK : Option Addr) (cK h c r : Nat) (e : Ending) (w' : World) : Prop :=
 ∃ (y z : Int) (L' : List Pc) (H' : List Int), e = .returned (.tuple #[.int .i64 y, .int .i64 z]) ∧ PcsAt B w' t L' ∧ DlIn w' d L' H' gP cP qK cK ∧ L'.length = L.length ∧ H'.length = H.length ∧
  (∀ i, i < L.length → ((L'.getD i pc0).b = (L.getD i pc0).b ∧ (L'.getD i pc0).fl = (L.getD i pc0).fl ∧ (L'.getD i pc0).N ≤ (L.getD i pc0).N + 1) ∧ ∀ k, (L'.getD i pc0).F k → (L.getD i pc0).F k ∨ w.heap.size ≤ k) ∧ HoldsR (rwsL L') H' ∧
  (z = 0 ↔ h ≠ c ∧ bidP (L.getD c pc0).fl (L.getD c pc0).rows t (r : Int) ≠ 4294967296) ∧ (z = 0 → bidP (L.getD c pc0).fl (L.getD c pc0).rows t (r : Int) = y) ∧ (0 ≤ y ∧ y ≤ 4194304) ∧ H' = (if z = 0 then H.set r (c : Int) else H) ∧
  (∀ i, i < L.length → (i = c → totP (L'.getD i pc0).fl (L'.getD i pc0).rows t = totP (L.getD i pc0).fl (L.getD i pc0).rows t + y) ∧ (i = h → totP (L'.getD i pc0).fl (L'.getD i pc0).rows t ≤ totP (L.getD i pc0).fl (L.getD i pc0).rows t) ∧
    (i ≠ c → i ≠ h → totP (L'.getD i pc0).fl (L'.getD i pc0).rows t = totP (L.getD i pc0).fl (L.getD i pc0).rows t)) ∧
  Mod (fun k => (∃ i, i < L.length ∧ (L.getD i pc0).F k) ∨ ∃ a, qK = some a ∧ k = a.block) w w'
theorem sell_any {B : Nat} {w : World} {t : List Rq} {d : Nat} {L : List Pc} {H : List Int} {gP cP : Nat} {qK : Option Addr} {cK h c r : Nat} (hDl : DlIn w d L H gP cP qK cK) (hP : PcsAt B w t L) (hB : B ≤ w.heap.size) (hho : HoldsR (rwsL L) H) (hr : r < H.length) (hc : c < L.length) (hh : h < L.length)
  (hhH : H.getD r 0 = (h : Int)) (hN : (L.getD c pc0).N < 1000000) :
  Calls Tryz.prog 16 #[.pointer (some ⟨d, 0, none⟩), .int .i64 (r : Int), .int .i64 (c : Int)] w (AnyPost B w t d L H gP cP qK cK h c r) := by
 have hok : ∀ i, i < L.length → PlnOk (L.getD i pc0).fl (L.getD i pc0).rows t := fun i hi => (hP.get hi).2.1
 by_cases hne : h = c
 ·refine (dsell_18 (c : Int) hr (by omega) (by rw [hhH, hne]) hDl).mono ?_
  rintro e w' ⟨rfl, hb⟩
  refine ⟨0, 18, L, H, rfl, hP.below hb, hDl.below hb, rfl, rfl, fun i hi => ⟨⟨rfl, rfl, Nat.le_succ _⟩, fun k hk => .inl hk⟩, hho, ⟨fun e => absurd e (by decide), fun e => absurd hne e.1⟩, fun e => absurd e (by decide), by omega, by rw [if_neg (by decide)], fun i hi => ⟨fun _ => by omega, fun _ => Int.le_refl _, fun _ _ => rfl⟩, (Mod.refl _ _).after hb⟩
 ·refine (dsell_go hDl hP hB hr hc hh hhH hne hN).mono ?_
  rintro e w' ⟨rfl, L', g1, g2, g3, g4, g5⟩
  have hpc := put_code (L.getD c pc0).fl (L.getD c pc0).rows t (hok c hc) (r : Int)
  have htot : ∀ i, i < L.length → _ := fun i hi => sold_tot (t := t) (r := (r : Int)) hok hne hi
  have hfl : ∀ i, i < L.length → (L'.getD i pc0).fl = (L.getD i pc0).fl := fun i hi => (g4 i hi).1.2.1
  have hrw : ∀ i, i < L.length → (L'.getD i pc0).rows = sellR t L h c (r : Int) i := fun i hi => (g4 i hi).2.1
  by_cases hz : (pputP (L.getD c pc0).fl (L.getD c pc0).rows t (r : Int)).2.2 = 0
  ·have hri := rise_bd (hok c hc) (hpc ▸ hz)
   have hbd : bidP (L.getD c pc0).fl (L.getD c pc0).rows t (r : Int) = (pputP (L.getD c pc0).fl (L.getD c pc0).rows t (r : Int)).2.1 := by
    unfold bidP
    rw [if_neg (by omega), hri.2.2.1]
   rw [if_neg (by omega)] at g2
   refine ⟨_, _, L', _, rfl, g1, g2, g3, List.length_set, fun i hi => ⟨(g4 i hi).1, (g4 i hi).2.2⟩, holds_sold hho hok hr hhH hne hc hz g3 hrw, ⟨fun _ => ⟨hne, by rw [hbd]; omega⟩, fun _ => hz⟩, fun _ => hbd, by omega, by rw [if_pos hz], fun i hi => ?_, g5⟩
   have h9 := htot i hi
   rw [if_neg (by omega)] at h9
   rw [hfl i hi, hrw i hi]
   exact ⟨h9.1, h9.2.1, fun e1 e2 => by rw [h9.2.2 e1 e2]⟩
  ·have hno := put_no (rows := (L.getD c pc0).rows) (fun e => hz (hpc.trans e))
   have hbd : bidP (L.getD c pc0).fl (L.getD c pc0).rows t (r : Int) = 4294967296 := by
    unfold bidP
    rw [if_pos (by omega)]
   have hy : (pputP (L.getD c pc0).fl (L.getD c pc0).rows t (r : Int)).2.1 = 0 := by rw [hno]
   rw [if_pos hz] at g2
   have hsame : ∀ i, i < L.length → (L'.getD i pc0).rows = (L.getD i pc0).rows := fun i hi => by
    rw [hrw i hi]
    unfold sellR
    rw [if_pos hz]
   refine ⟨_, _, L', H, rfl, g1, g2, g3, rfl, fun i hi => ⟨(g4 i hi).1, (g4 i hi).2.2⟩, holdsR_of (by unfold rwsL; rw [List.length_map, List.length_map, g3]) (fun i => ?_) hho, ⟨fun e => absurd e hz, fun e => absurd hbd e.2⟩, fun e => absurd e hz, by omega, by rw [if_neg hz], fun i hi => ?_, g5⟩
   ·rw [rwsL_at, rwsL_at]
    by_cases hi : i < L.length
    ·exact (hsame i hi).symm
    ·rw [List.getD_eq_getElem?_getD, List.getElem?_eq_none (by omega), List.getD_eq_getElem?_getD, List.getElem?_eq_none (by omega)]
   ·rw [hfl i hi, hsame i hi, hy]
    exact ⟨fun _ => by omega, fun _ => Int.le_refl _, fun _ _ => rfl⟩
end
section
section
open Go.RowKit
def ptrB (b : Nat) : List Value := [.pointer (some ⟨b, 0, none⟩)]
def tot28 (t : List Rq) (L : List Pc) (c : Nat) : Int := totP (L.getD c pc0).fl (L.getD c pc0).rows t
def bid28 (t : List Rq) (L : List Pc) (c r : Nat) : Int := bidP (L.getD c pc0).fl (L.getD c pc0).rows t (r : Int)
structure St28 (w0 : World) (B : Nat) (t : List Rq) (fls : List (List Ve)) (bs : List Nat) (d gP cP : Nat) (qK : Option Addr) (cK gB Hn : Nat) (i : Nat) (L : List Pc) (H : List Int) (w : World) : Prop where
 pcs : PcsAt B w t L
 dl : DlIn w d L H gP cP qK cK
 hol : HoldsR (rwsL L) H
 len : L.length = fls.length
 hl : H.length = Hn
 eq : ∀ c, c < fls.length → (L.getD c pc0).b = bs.getD c 0 ∧ (L.getD c pc0).fl = fls.getD c [] ∧ (L.getD c pc0).N ≤ 8 + i
 pls : Els w (some ⟨gB, 0, none⟩) 1 (bs.map ptrB)
 bl : bs.length = fls.length
 gl : gB < w.heap.size ∧ B ≤ w.heap.size ∧ w0.heap.size ≤ B
 nB : ∀ p ∈ L, ¬ p.F gB
 kB : ∀ a, qK = some a → H ≠ [] → B ≤ a.block ∧ a.block ≠ gB
 lo : Below w0.heap.size w0 w
def Und28 (n : Nat) (L : List Pc) (qK : Option Addr) (H : List Int) : Prop := (∀ p ∈ L, ∀ k, p.F k → k < n) ∧ ∀ a, qK = some a → H ≠ [] → a.block < n
section
variable {w0 w w' : World} {B : Nat} {t : List Rq} {fls : List (List Ve)} {bs : List Nat} {d gP cP : Nat} {qK : Option Addr} {cK gB Hn i : Nat} {L : List Pc} {H : List Int}
theorem St28.below (h : St28 w0 B t fls bs d gP cP qK cK gB Hn i L H w) (hb : Below w.heap.size w w') : St28 w0 B t fls bs d gP cP qK cK gB Hn i L H w' :=
 ⟨h.pcs.below hb, h.dl.below hb, h.hol, h.len, h.hl, h.eq, h.pls.below hb, h.bl, ⟨by have := hb.size; have := h.gl.1; omega, by have := hb.size; have := h.gl.2.1; omega, h.gl.2.2⟩, h.nB, h.kB, h.lo.trans (hb.mono h.lo.size)⟩
theorem St28.und (h : St28 w0 B t fls bs d gP cP qK cK gB Hn i L H w) : Und28 w.heap.size L qK H :=
 ⟨fun p hp k hk => (h.pcs.at_ p hp).own.2.2.2 k hk, fun a ha hH => by
  obtain ⟨g, C, e, hB⟩ := h.dl.hb hH
  rw [e] at ha
  cases ha
  exact hB.lt⟩
theorem St28.mem (h : St28 w0 B t fls bs d gP cP qK cK gB Hn i L H w) {c : Nat} (hc : c < fls.length) : c < L.length := by rw [h.len]; exact hc
theorem St28.cell (h : St28 w0 B t fls bs d gP cP qK cK gB Hn i L H w) {c : Nat} (hc : c < fls.length) : (loadVar 42 ((⟨gB, 0, none⟩ : Addr).add c)).run Tryz.prog w = .ok (.pointer (some ⟨bs.getD c 0, 0, none⟩)) w := by
 have hc2 : c < bs.length := by rw [h.bl]; exact hc
 have := h.pls.cells ⟨gB, 0, none⟩ rfl c (ptrB (bs.getD c 0)) 0 (.pointer (some ⟨bs.getD c 0, 0, none⟩)) (by rw [List.getElem?_map, List.getElem?_eq_getElem hc2, List.getD_eq_getElem?_getD, List.getElem?_eq_getElem hc2]; rfl) rfl
 exact run_cellPl (by simpa using this)
theorem St28.bid (h : St28 w0 B t fls bs d gP cP qK cK gB Hn i L H w) {c r : Nat} (hc : c < fls.length) (hr : r < Hn) :
  Calls Tryz.prog 20 #[.pointer (some ⟨bs.getD c 0, 0, none⟩), .int .i64 (r : Int)] w fun e w' => e = .returned (.int .u64 (bid28 t L c r)) ∧ Below w.heap.size w w' := by
 have h1 := bid_calls (h.pcs.get (h.mem hc)) (r : Int) (by have := h.dl.many.2; have := h.hl; unfold wf64; omega)
 rw [(h.eq c hc).1] at h1
 exact h1
theorem St28.total (h : St28 w0 B t fls bs d gP cP qK cK gB Hn i L H w) {c : Nat} (hc : c < fls.length) :
  Calls Tryz.prog 21 #[.pointer (some ⟨bs.getD c 0, 0, none⟩)] w fun e w' => e = .returned (.int .i64 (tot28 t L c)) ∧ Below w.heap.size w w' := by
 have h1 := ((h.pcs.get (h.mem hc)).pst h.pcs.tl).total
 rw [(h.eq c hc).1] at h1
 exact h1
theorem St28.has (h : St28 w0 B t fls bs d gP cP qK cK gB Hn i L H w) {c r : Nat} (hc : c < fls.length) (hr : r < Hn) :
  Calls Tryz.prog 22 #[.pointer (some ⟨bs.getD c 0, 0, none⟩), .int .i64 (r : Int)] w fun e w' => e = .returned (.bool (decide ((c : Int) = H.getD r 0))) ∧ w = w' := by
 have h1 := has_calls (h.pcs.get (h.mem hc)).1 (r : Int) (by have := h.dl.many.2; have := h.hl; unfold wf64; omega)
 rw [(h.eq c hc).1] at h1
 have h2 := (h.hol r (by rw [h.hl]; exact hr)).2 c
 rw [rwsL_at] at h2
 have h3 : decide (0 ≤ whereP (L.getD c pc0).rows (r : Int)) = decide ((c : Int) = H.getD r 0) := by
  by_cases e : (c : Int) = H.getD r 0
  ·rw [decide_eq_true e, decide_eq_true (h2.2 e)]
  ·rw [decide_eq_false e, decide_eq_false (fun e2 => e (h2.1 e2))]
 rw [h3] at h1
 exact h1
theorem St28.holder (h : St28 w0 B t fls bs d gP cP qK cK gB Hn i L H w) {r : Nat} (hr : r < Hn) :
  Calls Tryz.prog 17 #[.pointer (some ⟨d, 0, none⟩), .int .i64 (r : Int)] w fun e w' => e = .returned (.int .i64 (H.getD r 0)) ∧ w = w' := by
 have h1 := dholder_calls h.dl (r : Int)
 have := h.hl
 rw [if_neg (by omega), Int.toNat_natCast] at h1
 exact h1
theorem St28.fine (h : St28 w0 B t fls bs d gP cP qK cK gB Hn i L H w) {r : Nat} (hr : r < Hn) : ∃ f : Nat, f < fls.length ∧ H.getD r 0 = (f : Int) := by
 obtain ⟨h1, h2⟩ := (h.hol r (by rw [h.hl]; exact hr)).1
 have h3 : (rwsL L).length = fls.length := by unfold rwsL; rw [List.length_map, h.len]
 rw [h3] at h2
 exact ⟨(H.getD r 0).toNat, by omega, by omega⟩
theorem St28.right (h : St28 w0 B t fls bs d gP cP qK cK gB Hn i L H w) : Calls Tryz.prog 13 #[.pointer (some ⟨d, 0, none⟩)] w fun e w' => e = .returned (.bool true) ∧ Below w.heap.size w w' := by
 have h3 : (rwsL L).length = L.length := by unfold rwsL; rw [List.length_map]
 have h1 := dright_calls h.dl h.pcs (fun r hr => by have := (h.hol r hr).1; rw [h3] at this; exact this)
 rw [rightB_R, holds_right h.hol] at h1
 exact h1
theorem tot28_bd (h : St28 w0 B t fls bs d gP cP qK cK gB Hn i L H w) {c : Nat} (hc : c < fls.length) : 0 ≤ tot28 t L c ∧ tot28 t L c ≤ 1000000000 := by
 have h2 := (h.pcs.get (h.mem hc)).2.1
 have h3 := totK_bd h2 (L.getD c pc0).fl.length (Nat.le_refl _)
 have h4 := h2.many
 unfold tot28 totP
 omega
theorem St28.sell (h : St28 w0 B t fls bs d gP cP qK cK gB Hn i L H w) (hi : i ≤ 900000) {n : Nat} (hn : Und28 n L qK H) {c f r : Nat} (hr : r < Hn) (hc : c < fls.length) (hfl : f < fls.length) (hf : H.getD r 0 = (f : Int)) :
  Calls Tryz.prog 16 #[.pointer (some ⟨d, 0, none⟩), .int .i64 (r : Int), .int .i64 (c : Int)] w fun e w' =>
   ∃ (y z : Int) (L' : List Pc) (H' : List Int), e = .returned (.tuple #[.int .i64 y, .int .i64 z]) ∧ St28 w0 B t fls bs d gP cP qK cK gB Hn (i + 1) L' H' w' ∧
    (z = 0 ↔ f ≠ c ∧ bid28 t L c r ≠ 4294967296) ∧ (z = 0 → bid28 t L c r = y) ∧ (0 ≤ y ∧ y ≤ 4194304) ∧ H' = (if z = 0 then H.set r (c : Int) else H) ∧
    (∀ k, k < fls.length → (k = c → tot28 t L' k = tot28 t L k + y) ∧ (k = f → tot28 t L' k ≤ tot28 t L k) ∧ (k ≠ c → k ≠ f → tot28 t L' k = tot28 t L k)) ∧
    Mod (fun k => k < n) w w' := by
 have hrH : r < H.length := by rw [h.hl]; exact hr
 have hH0 : H ≠ [] := fun e => by rw [e] at hrH; simp at hrH
 have hcL := h.mem hc
 have hfL := h.mem hfl
 refine (sell_any h.dl h.pcs h.gl.2.1 h.hol hrH hcL hfL hf (by have := (h.eq c hc).2.2; omega)).mono ?_
 rintro e w' ⟨y, z, L', H', rfl, g1, g2, g3, g4, g5, g6, g7, g8, g9, g10, g11, g12⟩
 have hgl := h.gl
 have hsz := g12.size
 have hqm : ∀ k, ((∃ i, i < L.length ∧ (L.getD i pc0).F k) ∨ ∃ a, qK = some a ∧ k = a.block) → (B ≤ k ∧ k ≠ gB) ∧ k < n := fun k hk => by
  rcases hk with ⟨j, hj, hk⟩ | ⟨a, ha, rfl⟩
  ·have hm := mem_getD (d := pc0) hj
   exact ⟨⟨(h.pcs.get hj).2.2 k hk, fun e => h.nB _ hm (e ▸ hk)⟩, hn.1 _ hm k hk⟩
  ·exact ⟨h.kB a ha hH0, hn.2 a ha hH0⟩
 have hH'0 : H'.length = H.length := g4
 refine ⟨y, z, L', H', rfl, ⟨g1, g2, g6, by rw [g3, h.len], by rw [g4, h.hl], fun k hk => ?_, els_modP h.pls g12 (fun a ha _ hk => ?_), h.bl, ⟨by omega, by omega, hgl.2.2⟩, fun p hp hk => ?_, fun a ha _ => h.kB a ha hH0, h.lo.trans (g12.below h.lo.size (fun k hk => ?_))⟩, g7, g8, g9, g10, fun k hk => ?_, g12.mono (fun k _ hk => (hqm k hk).2)⟩
 ·obtain ⟨⟨a1, a2, a3⟩, _⟩ := g5 k (h.mem hk)
  obtain ⟨b1, b2, b3⟩ := h.eq k hk
  exact ⟨a1.trans b1, a2.trans b2, by omega⟩
 ·cases ha
  exact (hqm _ hk).1.2 rfl
 ·obtain ⟨j, hj, rfl⟩ := List.mem_iff_getElem.1 hp
  have hjL : j < L.length := by omega
  have e : L'.getD j pc0 = L'[j] := by rw [List.getD_eq_getElem?_getD, List.getElem?_eq_getElem hj]; rfl
  rcases (g5 j hjL).2 gB (by rw [e]; exact hk) with hk | hk
  ·exact h.nB _ (mem_getD (d := pc0) hjL) hk
  ·omega
 ·have := (hqm k hk).1.1
  omega
 ·exact g11 k (h.mem hk)
end
end
end
section
open Go.ChangeShapes Go.WideShapes Go.ChangeAt Go.RowKit
def prV (k : IntKind) (s : Int × Int) : List Value := [.int k s.1, .int k s.2]
set_option maxRecDepth 100000 in
theorem arg_prsU {H : Type} {enc : TypeId × Value → H} {W : World} {base : Nat} {v : Value} {d : DataW H} {q : List MemPlace} (hv : Value.okWide Tryz.prog W .any base 65 v) (h : DataW.Trod enc Tryz.prog W 0 (fun _ => true) true 65 v d q) :
  ∃ (p : Option Addr) (L : List (Int × Int)) (cap : Nat), v = .slice p L.length cap ∧ Els W p 2 ((L.take 20).map (prV .u8)) ∧ L.length ≤ 9223372036854775807 ∧ ∀ s ∈ L, (0 ≤ s.1 ∧ s.1 < 256) ∧ (0 ≤ s.2 ∧ s.2 < 256) := by
 obtain ⟨a, len, cap0, rfl⟩ := okWide_slice Tryz.underlying65 hv
 obtain ⟨fuel, hf⟩ := h
 obtain ⟨p, L, cap, e, h1, h2, h3, h4⟩ := open_rows (n := 2) ((0, 0) : Int × Int) (prV .u8) (fun s => (0 ≤ s.1 ∧ s.1 < 256) ∧ (0 ≤ s.2 ∧ s.2 < 256)) (fun _ => rfl) Tryz.underlying65 (by kernel_rfl) (fun _ _ _ h => by
  obtain ⟨N, hN⟩ := open_ints Tryz.underlying66 Tryz.underlying5 (by kernel_rfl) h
  have h0 := hN 0 (by omega)
  have h1 := hN 1 (by omega)
  refine ⟨(N 0, N 1), ⟨u8_of h0.2, u8_of h1.2⟩, fun j v hj => ?_⟩
  match j with
  | 0 => cases hj; exact h0.1
  | 1 => cases hj; exact h1.1
  | j + 2 => simp [prV] at hj) hf
 have h5 := h1.take 20 (by omega)
 rw [← List.map_take] at h5
 exact ⟨p, L, cap, by simpa [Value.cells] using e, h5, by omega, h4⟩
end
end Go.Proofs.YtkaoflndbcfodaaGreat
