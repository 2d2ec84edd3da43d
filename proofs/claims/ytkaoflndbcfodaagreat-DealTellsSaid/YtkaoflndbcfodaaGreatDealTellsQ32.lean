/-
  The row 'DealTells': a pack of the texts Dwt28 Sb28 Bi28 Dbk28 St28 Tq28 Tw28, pruned to what the row uses.
-/
import Derived.Test.YtkaoflndbcfodaaGreatDealTellsQ31
namespace Go.Proofs.YtkaoflndbcfodaaGreat
set_option maxHeartbeats 8000000
set_option maxRecDepth 100000
section
open Go.RowKit
theorem BoR.holds {w:World} {B0:Nat} {t:List Rq} {gB:Nat} {CB:Array Value} {L:List Pc} {d gP cP:Nat} {qK:Option Addr} {cK dd gR:Nat} {F:Nat→Prop} {fls:List (List Ve)} {Rs:List (List Rou2)} {H:List Int} {qF:Option Addr} {cF:Nat} {pf:List (Option Addr × Nat)} {cR:Nat} {pr:List (Option Addr × Nat)} {qss:List (List (Option Addr × Nat))} {qT:Option Addr} {cT:Nat} {qH:Option Addr} {cH:Nat}
  (h:BoR w B0 t gB CB L d gP cP qK cK dd gR F fls Rs H qF cF pf cR pr qss qT cT qH cH):HoldsR (rwsL L) H∧∀ r,r < H.length→0≤H.getD r 0∧H.getD r 0 < (L.length:Int):=by
 have h1:=rsH_holds h.ok.new (by rw [h.ok.tl]; exact h.ok.hl) h.ok.ok
 have h2:HoldsR (rwsL L) H:=holdsR_of (by rw [rsH_len]; unfold rwsL; rw [List.length_map]; exact h.len.symm) (fun c=>by
  rw [rwsL_at,← h.ok.rs]
  by_cases hc:c < fls.length
  ·exact (h.eq c hc).2.1.symm
  ·rw [h.ok.rs,List.getD_eq_getElem?_getD,List.getElem?_eq_none (by rw [rsH_len]; omega),List.getD_eq_getElem?_getD,List.getElem?_eq_none (by rw [h.len]; omega)]
   rfl) h1
 exact ⟨h2,fun r hr=>by have:=(h2 r hr).1; unfold rwsL at this; rw [List.length_map] at this; exact this⟩
end
section
open Go.RowKit
theorem holds_sold {L L':List Pc} {H:List Int} {t:List Rq} {h c r:Nat} (hho:HoldsR (rwsL L) H) (hP:∀ i,i < L.length→PlnOk (L.getD i pc0).fl (L.getD i pc0).rows t) (hr:r < H.length) (hh:H.getD r 0 = (h:Int)) (hne:h ≠ c) (hc:c < L.length)
  (h0:(pputP (L.getD c pc0).fl (L.getD c pc0).rows t (r:Int)).2.2 = 0) (hl:L'.length = L.length) (hrow:∀ i,i < L.length→(L'.getD i pc0).rows = sellR t L h c (r:Int) i):HoldsR (rwsL L') (H.set r (c:Int)):=by
 have hlr:∀ M:List Pc,(rwsL M).length = M.length:=fun M=>by unfold rwsL; rw [List.length_map]
 intro q hq
 rw [List.length_set] at hq
 have eH:(H.set r (c:Int)).getD q 0 = if r = q then (c:Int) else H.getD q 0:=by
  rw [List.getD_eq_getElem?_getD,List.getElem?_set,List.getD_eq_getElem?_getD]
  by_cases e:r = q
  ·rw [if_pos e,if_pos e,if_pos hr]; rfl
  ·rw [if_neg e,if_neg e]
 obtain ⟨v,hv⟩:=hho q hq
 rw [eH,hlr,hl]
 rw [hlr] at v
 refine ⟨by by_cases e:r = q <;> simp only [e,if_true,if_false] <;> omega,fun k=>?_⟩
 rw [rwsL_at]
 by_cases hk:k < L.length
 ·have hvk:=hv k
  rw [rwsL_at] at hvk
  rw [hrow k hk]
  unfold sellR
  rw [if_neg (by omega)]
  by_cases ekc:k = c
  ·subst ekc
   rw [if_pos rfl,put_where (hP k hk) h0]
   by_cases e:r = q
   ·rw [if_pos e]
    exact ⟨fun _=>rfl,fun _=>.inl (by rw [e])⟩
   ·rw [if_neg e,← hvk]
    exact ⟨fun h=>h.resolve_left (by omega),.inr⟩
  ·rw [if_neg ekc]
   by_cases ekh:k = h
   ·rw [if_pos ekh,take_where (hP k hk)]
    by_cases e:r = q
    ·rw [if_pos e]
     exact ⟨fun h=>absurd (by rw [e]) h.1,fun h=>absurd h (by omega)⟩
    ·rw [if_neg e,← hvk]
     exact ⟨fun h=>h.2,fun h=>⟨by omega,h⟩⟩
   ·rw [if_neg ekh,hvk]
    by_cases e:r = q
    ·subst e
     rw [if_pos rfl,hh]
     omega
    ·rw [if_neg e]
 ·have e1:(L'.getD k pc0).rows = []:=by
   rw [List.getD_eq_getElem?_getD,List.getElem?_eq_none (by omega)]
   rfl
  rw [e1]
  refine ⟨fun h=>absurd (show (0:Int)≤-1 from h) (by omega),fun h=>?_⟩
  exfalso
  by_cases e:r = q
  ·rw [if_pos e] at h; omega
  ·rw [if_neg e] at h; omega
end
section
open Go.RowKit
theorem ints28_calls (p q:Option Addr) (c d:Nat) (A B:List Int) (w:World) (hA:Els w p 1 (A.map inV)) (hB:Els w q 1 (B.map inV)):
  Calls Tryz.prog 25 #[.slice p A.length c,.slice q B.length d] w fun e w'=>e = .returned (.bool (decide (A = B)))∧Below w.heap.size w w':=by
 have hbig:A.length≤140737488351232:=by simpa using hA.big
 have hbig2:B.length≤140737488351232:=by simpa using hB.big
 replace hA:=Lib.hid hA
 replace hB:=Lib.hid hB
 by_cases hl:A.length = B.length
 ·have hX:Hid (decide (A = B) = true↔∀ k (h1:k < A.length) (h2:k < B.length),A[k] = B[k]):=Lib.hid ⟨fun h k h1 h2=>by have e:=of_decide_eq_true h; subst e; rfl,fun h=>decide_eq_true (List.ext_getElem hl (fun k h1 h2=>h k h1 h2))⟩
  generalize decide (A = B) = X at *
  go_enter Tryz.func25,Tryz.ntmps25
  rw [← hl]
  replace hl:=Lib.hid hl
  go_wp2_with fail
  go_loopw [5] (fun s5 wx=>∃ k:Nat,k≤A.length∧s5 = .int .i64 k∧Hid (∀ j (h1:j < A.length) (h2:j < B.length),j < k→A[j] = B[j])∧∃ m,wx = w.drewN m) (fun s5 _=>A.length - (intOf s5).toNat)
  case atStart=>exact ⟨0,Nat.zero_le _,rfl,Lib.hid (fun j _ _ h=>by omega),0,rfl⟩
  case round=>
   obtain ⟨k,hk,rfl,hR,m,rfl⟩:=hrel
   by_cases hlt:k < A.length
   ·have hltI:(k:Int) < (A.length:Int):=by omega
    have hk0:(0:Int)≤(k:Int):=by omega
    have s1:IntKind.i64.wrap ((k:Int) + 1) = (k:Int) + 1:=IntWalk.i64_in _ (by omega)
    have hlb:k < B.length:=by rw [← hl.out]; exact hlt
    obtain ⟨a,ha⟩:=hA.out.some_of (k:=k) (by simpa using hlt)
    subst ha
    obtain ⟨b,hb⟩:=hB.out.some_of (k:=k) (by simpa using hlb)
    subst hb
    have ca:∀ n,(w.drewN n).cell? (a.add k) = some (.int .i64 A[k]):=fun n=>by
     have:=hA.out.cells a rfl k (inV A[k]) 0 (.int .i64 A[k]) (by rw [List.getElem?_map,List.getElem?_eq_getElem hlt]; rfl) rfl
     rw [Nat.mul_one,Nat.add_zero] at this
     exact this
    have cb:∀ n,(w.drewN n).cell? (b.add k) = some (.int .i64 B[k]):=fun n=>by
     have:=hB.out.cells b rfl k (inV B[k]) 0 (.int .i64 B[k]) (by rw [List.getElem?_map,List.getElem?_eq_getElem hlb]; rfl) rfl
     rw [Nat.mul_one,Nat.add_zero] at this
     exact this
    have hno:Hid (A[k] ≠ B[k]→X = false):=Lib.hid (fun h=>by
     cases X with
     | false=>rfl
     | true=>exact absurd (hX.out.1 rfl k hlt hlb) h)
    have hR':Hid (A[k] = B[k]→∀ j (h1:j < A.length) (h2:j < B.length),j < k + 1→A[j] = B[j]):=Lib.hid (fun h j h1 h2 hj=>by
     by_cases e:j = k
     ·subst e; exact h
     ·exact hR.out j h1 h2 (by omega))
    replace ca:=Lib.hid ca
    replace cb:=Lib.hid cb
    clear hR
    generalize A[k] = x at *
    generalize B[k] = y at *
    obtain ⟨g,hg⟩:∃ g,(x != y) = g:=⟨_,rfl⟩
    replace hg:=Lib.hid hg
    go_upto_region 6 with fail
    refine wp_region_quiet_lit (by kernel_rfl) (by kernel_rfl) ?_
    iterate 3 (go_big_quiet_step (fail))
    refine wpQuiet_v rfl (.int .i64 x) (by rintro _ ⟨j,rfl⟩; rw [World.drewN_drewN]; exact run_load_v rfl rfl (run_i64 (ca.out _))) ?_
    simp only [Act.put,List.setIfInBounds_toArray,List.set_cons_succ,List.set_cons_zero]
    iterate 3 (go_big_quiet_step (fail))
    refine wpQuiet_v rfl (.int .i64 y) (by rintro _ ⟨j,rfl⟩; rw [World.drewN_drewN]; exact run_load_v rfl rfl (run_i64 (cb.out _))) ?_
    simp only [Act.put,List.setIfInBounds_toArray,List.set_cons_succ,List.set_cons_zero]
    go_big_quiet_step (fail)
    refine wpQuiet_nil ?_
    rintro _ ⟨j,rfl⟩
    rw [World.drewN_drewN,hg.out]
    cases g with
    | true=>
     obtain rfl:X = false:=hno.out (by simpa using hg.out)
     clear hno hR' hX ca cb
     go_wp2
     go_ret
     exact ⟨rfl,below_drewN (Below.refl _ _) _⟩
    | false=>
     have hR2:=Lib.hid (hR'.out (by simpa using hg.out))
     clear hno hR' ca cb
     go_wp2_with fail
     go_roundw
     case rel=>exact ⟨k + 1,by omega,by simp,hR2,_,rfl⟩
     case measure=>simp [intOf]; omega
   ·obtain rfl:X = true:=hX.out.2 (fun j h1 h2=>hR.out j h1 h2 (by omega))
    clear hX hR
    go_wp2
    go_ret
    exact ⟨rfl,below_drewN (Below.refl _ _) _⟩
 ·have hX:decide (A = B) = false:=decide_eq_false (fun e=>hl (by rw [e]))
  rw [hX]
  have n1:((A.length:Int) != (B.length:Int)) = true:=by simpa using (show ¬ (A.length:Int) = (B.length:Int) by omega)
  have n2:(A.length != B.length) = true:=by simpa using hl
  go_enter Tryz.func25,Tryz.ntmps25
  go_wp2
  go_ret
  exact ⟨rfl,Below.refl _ _⟩
theorem ints28_E (p q:Option Addr) (c d:Nat) (A:List Int) (w:World) (hA:Els w p 1 (A.map inV)) (hB:Els w q 1 (A.map inV)):
  Calls Tryz.prog 25 #[.slice p A.length c,.slice q A.length d] w fun e w'=>e = .returned (.bool true)∧Below w.heap.size w w':=by
 have:=ints28_calls p q c d A A w hA hB
 rwa [decide_eq_true rfl] at this
theorem rise_bd {fl:List Ve} {rows:List Rou2} {t:List Rq} (hP:PlnOk fl rows t) {req:Int} (h:(prcP fl rows t req).2.2 = 0):
  0≤(prcP fl rows t req).2.1∧(prcP fl rows t req).2.1≤4194304∧(pputP fl rows t req).2.1 = (prcP fl rows t req).2.1∧(pputP fl rows t req).2.2 = 0:=by
 obtain ⟨i,a,b,hi,hab,hbl,_,hr,hw,hR,h0,_,e1,e2⟩:=put_ok hP h
 have ht:=put_tot hP req
 have h1:=totK_bd hP fl.length (Nat.le_refl _)
 have h2:=totK_bd (put_keeps hP req) fl.length (Nat.le_refl _)
 have hm:=hP.many
 rw [e2] at ht h2 ⊢
 rw [e1]
 unfold totP at ht
 dsimp only at ht h2 ⊢
 refine ⟨h0,?_,rfl,rfl⟩
 omega
theorem put_code (fl:List Ve) (rows:List Rou2) (t:List Rq) (hP:PlnOk fl rows t) (req:Int):(pputP fl rows t req).2.2 = (prcP fl rows t req).2.2:=by
 by_cases h:(prcP fl rows t req).2.2 = 0
 ·rw [(rise_bd hP h).2.2.2,h]
 ·rw [put_no h]
end
section
section
open Go.RowKit
theorem blk_ne28 {w:World} {g:Nat} {C1 C2:Array Value} {T1 T2:TypeId} (h1:Blk w g C1 T1) (h2:Blk w g C2 T2) (hT:T1 ≠ T2):False:=by
 have e1:w.heap[g]? = some (.cells C1 T1 (0,0)):=h1
 have e2:w.heap[g]? = some (.cells C2 T2 (0,0)):=h2
 rw [e1] at e2
 cases e2
 exact hT rfl
end
end
section
section
open Go.RowKit
def ptrB (b:Nat):List Value:=[.pointer (some ⟨b,0,none⟩)]
structure St28 (w0:World) (B:Nat) (t:List Rq) (fls:List (List Ve)) (bs:List Nat) (d gP cP:Nat) (qK:Option Addr) (cK gB Hn:Nat) (i:Nat) (L:List Pc) (H:List Int) (w:World):Prop where
 pcs:PcsAt B w t L
 dl:DlIn w d L H gP cP qK cK
 hol:HoldsR (rwsL L) H
 len:L.length = fls.length
 hl:H.length = Hn
 eq:∀ c,c < fls.length→(L.getD c pc0).b = bs.getD c 0∧(L.getD c pc0).fl = fls.getD c []∧(L.getD c pc0).N≤8 + i
 pls:Els w (some ⟨gB,0,none⟩) 1 (bs.map ptrB)
 bl:bs.length = fls.length
 gl:gB < w.heap.size∧B≤w.heap.size∧w0.heap.size≤B
 nB:∀ p ∈ L,¬ p.F gB
 kB:∀ a,qK = some a→H ≠ []→B≤a.block∧a.block ≠ gB
 lo:Below w0.heap.size w0 w
def Und28 (n:Nat) (L:List Pc) (qK:Option Addr) (H:List Int):Prop:=(∀ p ∈ L,∀ k,p.F k→k < n)∧∀ a,qK = some a→H ≠ []→a.block < n
section
variable {w0 w w':World} {B:Nat} {t:List Rq} {fls:List (List Ve)} {bs:List Nat} {d gP cP:Nat} {qK:Option Addr} {cK gB Hn i:Nat} {L:List Pc} {H:List Int}
theorem St28.below (h:St28 w0 B t fls bs d gP cP qK cK gB Hn i L H w) (hb:Below w.heap.size w w'):St28 w0 B t fls bs d gP cP qK cK gB Hn i L H w':=
 ⟨h.pcs.below hb,h.dl.below hb,h.hol,h.len,h.hl,h.eq,h.pls.below hb,h.bl,⟨by have:=hb.size; have:=h.gl.1; omega,by have:=hb.size; have:=h.gl.2.1; omega,h.gl.2.2⟩,h.nB,h.kB,h.lo.trans (hb.mono h.lo.size)⟩
theorem St28.und (h:St28 w0 B t fls bs d gP cP qK cK gB Hn i L H w):Und28 w.heap.size L qK H:=
 ⟨fun p hp k hk=>(h.pcs.at_ p hp).own.2.2.2 k hk,fun a ha hH=>by
  obtain ⟨g,C,e,hB⟩:=h.dl.hb hH
  rw [e] at ha
  cases ha
  exact hB.lt⟩
theorem St28.mem (h:St28 w0 B t fls bs d gP cP qK cK gB Hn i L H w) {c:Nat} (hc:c < fls.length):c < L.length:=by rw [h.len]; exact hc
theorem St28.cell (h:St28 w0 B t fls bs d gP cP qK cK gB Hn i L H w) {c:Nat} (hc:c < fls.length):(loadVar 42 ((⟨gB,0,none⟩:Addr).add c)).run Tryz.prog w = .ok (.pointer (some ⟨bs.getD c 0,0,none⟩)) w:=by
 have hc2:c < bs.length:=by rw [h.bl]; exact hc
 have:=h.pls.cells ⟨gB,0,none⟩ rfl c (ptrB (bs.getD c 0)) 0 (.pointer (some ⟨bs.getD c 0,0,none⟩)) (by rw [List.getElem?_map,List.getElem?_eq_getElem hc2,List.getD_eq_getElem?_getD,List.getElem?_eq_getElem hc2]; rfl) rfl
 exact run_cellPl (by simpa using this)
theorem St28.holder (h:St28 w0 B t fls bs d gP cP qK cK gB Hn i L H w) {r:Nat} (hr:r < Hn):
  Calls Tryz.prog 17 #[.pointer (some ⟨d,0,none⟩),.int .i64 (r:Int)] w fun e w'=>e = .returned (.int .i64 (H.getD r 0))∧w = w':=by
 have h1:=dholder_calls h.dl (r:Int)
 have:=h.hl
 rw [if_neg (by omega),Int.toNat_natCast] at h1
 exact h1
theorem St28.fine (h:St28 w0 B t fls bs d gP cP qK cK gB Hn i L H w) {r:Nat} (hr:r < Hn):∃ f:Nat,f < fls.length∧H.getD r 0 = (f:Int):=by
 obtain ⟨h1,h2⟩:=(h.hol r (by rw [h.hl]; exact hr)).1
 have h3:(rwsL L).length = fls.length:=by unfold rwsL; rw [List.length_map,h.len]
 rw [h3] at h2
 exact ⟨(H.getD r 0).toNat,by omega,by omega⟩
theorem St28.right (h:St28 w0 B t fls bs d gP cP qK cK gB Hn i L H w):Calls Tryz.prog 13 #[.pointer (some ⟨d,0,none⟩)] w fun e w'=>e = .returned (.bool true)∧Below w.heap.size w w':=by
 have h3:(rwsL L).length = L.length:=by unfold rwsL; rw [List.length_map]
 have h1:=dright_calls h.dl h.pcs (fun r hr=>by have:=(h.hol r hr).1; rw [h3] at this; exact this)
 rw [rightB_R,holds_right h.hol] at h1
 exact h1
end
end
end
section
section
open Go.RowKit
def sel28 (fls:List (List Ve)) (t:List Rq) (Rs:List (List Rou2)) (H:List Int) (req tv:Int):Int × Int × List (List Rou2) × List Int:=
 if req < 0∨(H.length:Int)≤req then (0,8,Rs,H)
 else if tv < 0∨(fls.length:Int)≤tv then (0,2,Rs,H)
 else if H.getD req.toNat 0 = tv then (0,18,Rs,H)
 else if (pputP (fls.getD tv.toNat []) (Rs.getD tv.toNat []) t req).2.2 ≠ 0 then (0,12,Rs,H)
 else ((pputP (fls.getD tv.toNat []) (Rs.getD tv.toNat []) t req).2.1,0,
  (Rs.set tv.toNat (pputP (fls.getD tv.toNat []) (Rs.getD tv.toNat []) t req).1).set (H.getD req.toNat 0).toNat (ptakP (Rs.getD (H.getD req.toNat 0).toNat []) req).1,H.set req.toNat tv)
theorem sel28_18 {fls:List (List Ve)} {t:List Rq} {Rs:List (List Rou2)} {H:List Int} {r c:Nat} (hr:r < H.length) (hc:c < fls.length) (h:H.getD r 0 = (c:Int)):sel28 fls t Rs H r c = (0,18,Rs,H):=by
 unfold sel28
 rw [if_neg (by omega),if_neg (by omega),Int.toNat_natCast,if_pos h]
theorem sel28_12 {fls:List (List Ve)} {t:List Rq} {Rs:List (List Rou2)} {H:List Int} {r c:Nat} (hr:r < H.length) (hc:c < fls.length) (h:H.getD r 0 ≠ (c:Int)) (h2:(pputP (fls.getD c []) (Rs.getD c []) t (r:Int)).2.2 ≠ 0):sel28 fls t Rs H r c = (0,12,Rs,H):=by
 unfold sel28
 rw [if_neg (by omega),if_neg (by omega),Int.toNat_natCast,if_neg h,Int.toNat_natCast,if_pos h2]
theorem sel28_0 {fls:List (List Ve)} {t:List Rq} {Rs:List (List Rou2)} {H:List Int} {r c f:Nat} (hr:r < H.length) (hc:c < fls.length) (hf:H.getD r 0 = (f:Int)) (h:f ≠ c) (h2:(pputP (fls.getD c []) (Rs.getD c []) t (r:Int)).2.2 = 0):
  sel28 fls t Rs H r c = ((pputP (fls.getD c []) (Rs.getD c []) t (r:Int)).2.1,0,(Rs.set c (pputP (fls.getD c []) (Rs.getD c []) t (r:Int)).1).set f (ptakP (Rs.getD f []) (r:Int)).1,H.set r (c:Int)):=by
 unfold sel28
 rw [if_neg (by omega),if_neg (by omega),Int.toNat_natCast,if_neg (by omega),Int.toNat_natCast,if_neg (by omega),hf,Int.toNat_natCast]
theorem put_c12 {fl:List Ve} {rows:List Rou2} {t:List Rq} {r:Nat} (hr:r < t.length) (hw:whereP rows (r:Int) < 0) (h:(pputP fl rows t (r:Int)).2.2 ≠ 0) (hP:PlnOk fl rows t):(pputP fl rows t (r:Int)).2.2 = 12:=by
 rw [put_code fl rows t hP] at h ⊢
 unfold prcP at h ⊢
 rw [if_neg (by omega),if_neg (by omega)] at h ⊢
 cases hk:prcK fl rows t (r:Int) fl.length with
 | none=>rfl
 | some p=>rw [hk] at h; exact absurd rfl h
structure Rh28 (w:World) (F:Nat→Prop) (d gR:Nat) (fls:List (List Ve)) (Rs:List (List Rou2)) (t:List Rq) (qF:Option Addr) (cF:Nat) (pf:List (Option Addr × Nat)) (cR:Nat) (qT:Option Addr) (cT:Nat) (qH:Option Addr) (cH Hn:Nat) (H:List Int):Prop where
 rd:∃ pr qss,RdIn w F d gR fls Rs t qF cF pf cR pr qss qT cT (.slice qH Hn cH)
 hl:H.length = Hn
 hol:Els w qH 1 (H.map inV)
 own:∀ a,qH = some a→a = ⟨a.block,0,none⟩∧¬ F a.block∧a.block ≠ gR∧a.block ≠ d∧∃ C,Blk w a.block C 3
section
variable {w w':World} {F:Nat→Prop} {d gR:Nat} {fls:List (List Ve)} {Rs:List (List Rou2)} {t:List Rq} {qF:Option Addr} {cF:Nat} {pf:List (Option Addr × Nat)} {cR:Nat} {qT:Option Addr} {cT:Nat} {qH:Option Addr} {cH Hn:Nat} {H:List Int}
theorem Rh28.below (h:Rh28 w F d gR fls Rs t qF cF pf cR qT cT qH cH Hn H) (hb:Below w.heap.size w w'):Rh28 w' F d gR fls Rs t qF cF pf cR qT cT qH cH Hn H:=by
 obtain ⟨⟨pr,qss,h1⟩,h2,h3,h4⟩:=h
 refine ⟨⟨pr,qss,h1.below hb⟩,h2,h3.below hb,fun a ha=>?_⟩
 obtain ⟨a1,a2,a3,a4,C,hB⟩:=h4 a ha
 exact ⟨a1,a2,a3,a4,C,hB.mod ((Mod.refl (fun _=>False) _).after hb) (fun h=>h)⟩
theorem Rh28.lt (h:Rh28 w F d gR fls Rs t qF cF pf cR qT cT qH cH Hn H):(∀ k,F k→k < w.heap.size)∧gR < w.heap.size∧d < w.heap.size∧∀ a,qH = some a→a.block < w.heap.size:=by
 obtain ⟨⟨pr,qss,h1⟩,h2,h3,h4⟩:=h
 refine ⟨h1.lt.1,h1.lt.2,h1.nd.2.2,fun a ha=>?_⟩
 obtain ⟨_,_,_,_,C,hB⟩:=h4 a ha
 exact hB.lt
theorem Rh28.mod (h:Rh28 w F d gR fls Rs t qF cF pf cR qT cT qH cH Hn H) {S:Nat→Prop} (hm:Mod S w w') (h1:∀ k,S k→¬ F k) (h2:¬ S gR) (h3:¬ S d) (h4:∀ a,qH = some a→¬ S a.block):Rh28 w' F d gR fls Rs t qF cF pf cR qT cT qH cH Hn H:=by
 obtain ⟨⟨pr,qss,g1⟩,g2,g3,g4⟩:=h
 refine ⟨⟨pr,qss,g1.mod hm h1 h2 h3⟩,g2,els_modP g3 hm (fun a ha _=>h4 a ha),fun a ha=>?_⟩
 obtain ⟨a1,a2,a3,a4,C,hB⟩:=g4 a ha
 exact ⟨a1,a2,a3,a4,C,hB.mod hm (h4 a ha)⟩
theorem Rh28.cell (h:Rh28 w F d gR fls Rs t qF cF pf cR qT cT qH cH Hn H) {r:Nat} (hr:r < Hn):∃ g,qH = some ⟨g,0,none⟩∧w.cell? ((⟨g,0,none⟩:Addr).add r) = some (.int .i64 (H.getD r 0)):=by
 obtain ⟨_,h2,h3,h4⟩:=h
 obtain ⟨a,rfl⟩:=h3.some_of (k:=r) (by rw [List.length_map,h2]; exact hr)
 have e:=(h4 a rfl).1
 refine ⟨a.block,by rw [← e],?_⟩
 rw [← e]
 exact inv_cell28 h3 (by rw [h2]; exact hr)
theorem Rh28.give (h:Rh28 w F d gR fls Rs t qF cF pf cR qT cT qH cH Hn H) {r:Nat} (hr:r < Hn) {g:Nat} (hq:qH = some ⟨g,0,none⟩) (v:Int):
  Rh28 (w.setCell ((⟨g,0,none⟩:Addr).add r) (.int .i64 v)) F d gR fls Rs t qF cF pf cR qT cT qH cH Hn (H.set r v)∧Mod (· = g) w (w.setCell ((⟨g,0,none⟩:Addr).add r) (.int .i64 v))∧w.frozen? ((⟨g,0,none⟩:Addr).add r) = false:=by
 obtain ⟨⟨pr,qss,g1⟩,g2,g3,g4⟩:=h
 obtain ⟨a1,a2,a3,a4,C,hB⟩:=g4 _ hq
 rw [addr0P]
 have hm:=(Mod.refl (· = g) w).setCell (p:=⟨g,r,none⟩) (fun _=>rfl) (.int .i64 v)
 have hrH:r < H.length:=by rw [g2]; exact hr
 have hE:=els_setP hB (by rw [← hq]; exact g3) (K:=r) (by rw [List.length_map]; exact hrH) (J:=0) (by omega) (.int .i64 v)
 rw [Nat.mul_one,Nat.add_zero] at hE
 have eL:(H.map inV).set r ((H.map inV)[r]'(by rw [List.length_map]; exact hrH) |>.set 0 (.int .i64 v)) = (H.set r v).map inV:=by
  rw [List.map_set]
  congr 1
  rw [List.getElem_map]
  rfl
 rw [eL] at hE
 refine ⟨⟨⟨pr,qss,g1.mod hm (fun k hk hF=>a2 (hk ▸ hF)) (fun e=>a3 e.symm) (fun e=>a4 e.symm)⟩,by rw [List.length_set]; exact g2,by rw [hq]; exact hE,fun a ha=>?_⟩,hm,hB.froz r⟩
 rw [hq] at ha
 cases ha
 exact ⟨rfl,a2,a3,a4,_,hB.set r (.int .i64 v)⟩
def RslPost (w:World) (F:Nat→Prop) (d gR:Nat) (fls:List (List Ve)) (t:List Rq) (qF:Option Addr) (cF:Nat) (pf:List (Option Addr × Nat)) (cR:Nat) (qT:Option Addr) (cT:Nat) (qH:Option Addr) (cH Hn:Nat) (X:Int × Int × List (List Rou2) × List Int) (e:Ending) (w':World):Prop:=
 e = .returned (.tuple #[.int .i64 X.1,.int .i64 X.2.1])∧Mod (fun k=>k = gR∨∃ a,qH = some a∧k = a.block) w w'∧∃ F',(∀ k,F' k→F k∨w.heap.size≤k)∧Rh28 w' F' d gR fls X.2.2.1 t qF cF pf cR qT cT qH cH Hn X.2.2.2
theorem RslPost.same (h:Rh28 w F d gR fls Rs t qF cF pf cR qT cT qH cH Hn H) {y z:Int} {e:Ending} (he:e = .returned (.tuple #[.int .i64 y,.int .i64 z])) (hb:Below w.heap.size w w'):RslPost w F d gR fls t qF cF pf cR qT cT qH cH Hn (y,z,Rs,H) e w':=
 ⟨he,(Mod.refl _ _).after hb,F,fun _ hk=>.inl hk,h.below hb⟩
theorem rsell28_calls (h:Rh28 w F d gR fls Rs t qF cF pf cR qT cT qH cH Hn H) (_hn:fls.length≤8) (hP:∀ c,c < fls.length→PlnOk (fls.getD c []) (Rs.getD c []) t) (hho:HoldsR Rs H) (hRl:Rs.length = fls.length) (hHt:Hn≤t.length) (_hH64:Hn≤64) (req tv:Int):
  Calls Tryz.prog 24 #[.pointer (some ⟨d,0,none⟩),.int .i64 req,.int .i64 tv] w (RslPost w F d gR fls t qF cF pf cR qT cT qH cH Hn (sel28 fls t Rs H req tv)):=by
 have hHl:=h.hl
 obtain ⟨pr,qss,hRd⟩:=h.rd
 have hl3:=Lib.hid (fun wx (hb:Below w.heap.size w wx)=>run_cI28 (((hRd.below hb).box).cell (i:=3) rfl))
 have hl0:=Lib.hid (run_cF28 (hRd.box.cell (i:=0) rfl))
 have hw0:=Lib.hid (Below.refl w.heap.size w)
 by_cases hr0:req < 0
 ·have hX:sel28 fls t Rs H req tv = (0,8,Rs,H):=if_pos (.inl hr0)
  rw [hX]
  have hfin:=Lib.hid (RslPost.same h (y:=0) (z:=8) rfl (Below.refl w.heap.size w))
  clear h hRd hX hP hho
  go_enter Tryz.func24,Tryz.ntmps24
  go_wp2_with fail
  go_ret2
  exact hfin.out
 by_cases hr1:(Hn:Int)≤req
 ·have hX:sel28 fls t Rs H req tv = (0,8,Rs,H):=if_pos (.inr (by omega))
  rw [hX]
  have hfin:=Lib.hid (RslPost.same h (y:=0) (z:=8) rfl (Below.refl w.heap.size w))
  have hge:req ≥ (Hn:Int):=hr1
  clear h hRd hX hP hho
  go_enter Tryz.func24,Tryz.ntmps24
  go_wp2_with (refine wpList_load_v rfl 35 _ rfl ⟨d,3,none⟩ rfl _ (hl3.out _ hw0.out) ?_)
  go_ret2
  exact hfin.out
 obtain ⟨r,rfl⟩:=Int.eq_ofNat_of_zero_le (by omega:0≤req)
 have hrH:r < Hn:=by omega
 have hge:¬ (r:Int) ≥ (Hn:Int):=hr1
 by_cases ht0:tv < 0
 ·have hX:sel28 fls t Rs H r tv = (0,2,Rs,H):=by unfold sel28; rw [if_neg (by omega),if_pos (.inl ht0)]
  rw [hX]
  have hfin:=Lib.hid (RslPost.same h (y:=0) (z:=2) rfl (Below.refl w.heap.size w))
  clear h hRd hX hP hho
  go_enter Tryz.func24,Tryz.ntmps24
  go_wp2_with (refine wpList_load_v rfl 35 _ rfl ⟨d,3,none⟩ rfl _ (hl3.out _ hw0.out) ?_)
  go_ret2
  exact hfin.out
 by_cases ht1:(fls.length:Int)≤tv
 ·have hX:sel28 fls t Rs H r tv = (0,2,Rs,H):=by unfold sel28; rw [if_neg (by omega),if_pos (.inr ht1)]
  rw [hX]
  have hfin:=Lib.hid (RslPost.same h (y:=0) (z:=2) rfl (Below.refl w.heap.size w))
  have hge2:tv ≥ (fls.length:Int):=ht1
  clear h hRd hX hP hho
  go_enter Tryz.func24,Tryz.ntmps24
  go_wp2_with (first | (refine wpList_load_v rfl 35 _ rfl ⟨d,3,none⟩ rfl _ (hl3.out _ hw0.out) ?_) | (refine wpList_load_v rfl 36 _ rfl ⟨d,0,none⟩ rfl _ hl0.out ?_))
  go_ret2
  exact hfin.out
 obtain ⟨c,rfl⟩:=Int.eq_ofNat_of_zero_le (by omega:0≤tv)
 have hcF:c < fls.length:=by omega
 have hge2:¬ (c:Int) ≥ (fls.length:Int):=ht1
 have hrHl:r < H.length:=by omega
 obtain ⟨⟨o1,o2⟩,o3⟩:=hho r hrHl
 obtain ⟨f,hf⟩:=Int.eq_ofNat_of_zero_le o1
 rw [hf,hRl] at o2
 have hfF:f < fls.length:=by omega
 obtain ⟨g,rfl,hcH⟩:=h.cell hrH
 rw [hf] at hcH
 have hcHl:=Lib.hid (run_i64D hcH)
 by_cases hfc:f = c
 ·have hX:=sel28_18 (t:=t) (Rs:=Rs) hrHl hcF (by rw [hf,hfc])
  rw [hX]
  have hfin:=Lib.hid (RslPost.same h (y:=0) (z:=18) rfl (Below.refl w.heap.size w))
  have d1:((f:Int) == (c:Int)) = true:=beq_iff_eq.2 (by omega)
  clear h hRd hX hP hho o3 hcH
  go_enter Tryz.func24,Tryz.ntmps24
  go_wp2_with (first | (refine wpList_load_v rfl 35 _ rfl ⟨d,3,none⟩ rfl _ (hl3.out _ hw0.out) ?_) | (refine wpList_load_v rfl 36 _ rfl ⟨d,0,none⟩ rfl _ hl0.out ?_) | (refine wpList_v rfl (.pointer (some ((⟨g,0,none⟩:Addr).add r))) (run_ixIn (k:=r) rfl rfl rfl hrH) ?_) | (refine wpList_load_v rfl 3 _ rfl ((⟨g,0,none⟩:Addr).add r) rfl _ hcHl.out ?_))
  go_ret2
  exact hfin.out
 have d1:((f:Int) == (c:Int)) = false:=beq_eq_false_iff_ne.2 (by omega)
 have hPc:=hP c hcF
 have hPf:=hP f hfF
 have hwc:whereP (Rs.getD c []) (r:Int) < 0:=by
  have:=(o3 c).1
  by_cases h9:0≤whereP (Rs.getD c []) (r:Int)
  ·have:=this h9
   rw [hf] at this
   omega
  ·omega
 have hrt:r < t.length:=by omega
 have hput:=Lib.hid (rput28_calls hRd hcF hPc hrt hwc)
 obtain ⟨U,hU⟩:∃ U,pputP (fls.getD c []) (Rs.getD c []) t (r:Int) = U:=⟨_,rfl⟩
 rw [hU] at hput
 have hX12:U.2.2 ≠ 0→sel28 fls t Rs H r c = (0,12,Rs,H):=fun h9=>sel28_12 hrHl hcF (by rw [hf]; omega) (by rw [hU]; exact h9)
 have hX0:U.2.2 = 0→sel28 fls t Rs H r c = (U.2.1,0,(Rs.set c U.1).set f (ptakP (Rs.getD f []) (r:Int)).1,H.set r (c:Int)):=fun h9=>by
  have:=sel28_0 (t:=t) (Rs:=Rs) hrHl hcF hf hfc (by rw [hU]; exact h9)
  rw [hU] at this
  exact this
 obtain ⟨X,hXe⟩:∃ X,sel28 fls t Rs H r c = X:=⟨_,rfl⟩
 rw [hXe] at hX12 hX0 ⊢
 replace hX12:=Lib.hid hX12
 replace hX0:=Lib.hid hX0
 have hgl:=h.lt.2.2.2 _ rfl
 have hg:=h.own _ rfl
 have H0:=Lib.hid h
 replace hP:=Lib.hid hP
 replace hPf:=Lib.hid hPf
 replace hf:=Lib.hid hf
 replace hg:=Lib.hid hg
 obtain ⟨nF,hnF⟩:∃ nF,fls.length = nF:=⟨_,rfl⟩
 rw [hnF] at hl0 hge2
 replace hnF:=Lib.hid hnF
 clear h hRd hho o3 hU hXe hPc hwc
 go_enter Tryz.func24,Tryz.ntmps24
 go_wp2_with (first | (refine wpList_load_v rfl 35 _ rfl ⟨d,3,none⟩ rfl _ (hl3.out _ hw0.out) ?_) | (refine wpList_load_v rfl 36 _ rfl ⟨d,0,none⟩ rfl _ hl0.out ?_) | (refine wpList_v rfl (.pointer (some ((⟨g,0,none⟩:Addr).add r))) (run_ixIn (k:=r) rfl rfl rfl hrH) ?_) | (refine wpList_load_v rfl 3 _ rfl ((⟨g,0,none⟩:Addr).add r) rfl _ hcHl.out ?_))
 refine hput.out.mono ?_
 clear hput
 rintro e w2 (⟨h9,rfl,hb2⟩ | ⟨h9,rfl,hm2,F2,pr2,qss2,hF2,-,hRd2⟩)
 ·obtain rfl:=hX12.out h9
  have hfin:=Lib.hid (RslPost.same H0.out (y:=0) (z:=12) rfl hb2)
  clear hX0 hX12 hb2
  go_wp2_with fail
  go_ret2
  exact hfin.out
 ·obtain rfl:=hX0.out h9
  have hne:∀ a,(some ⟨g,0,none⟩:Option Addr) = some a→¬ a.block = gR:=fun a ha=>by cases ha; exact hg.out.2.2.1
  have hRf:(Rs.set c U.1).getD f [] = Rs.getD f []:=by rw [getD_setS,if_neg (fun h=>hfc h.1.symm)]
  have hE2:=els_modP H0.out.hol hm2 (fun a ha _=>hne a ha)
  have hcl2:=Lib.hid (run_i64D (hm2.cell_of (p:=(⟨g,0,none⟩:Addr).add r) (by rw [add_block]; exact hg.out.2.2.1) hcH))
  have hl32:=Lib.hid (run_cI28 (hRd2.box.cell (i:=3) rfl))
  have htk:=rtake28_calls hRd2 (r:Int) hfF (by rw [hRf]; exact hPf.out)
  rw [hRf] at htk
  replace htk:=Lib.hid htk
  replace hm2:=Lib.hid hm2
  replace hE2:=Lib.hid hE2
  replace hF2:=Lib.hid hF2
  clear hX0 hX12 hcH hRd2 hcHl hl0
  go_wp2_with (first | (refine wpList_load_v rfl 35 _ rfl ⟨d,3,none⟩ rfl _ hl32.out ?_) | (refine wpList_v rfl (.pointer (some ((⟨g,0,none⟩:Addr).add r))) (run_ixIn (k:=r) rfl rfl rfl hrH) ?_) | (refine wpList_load_v rfl 3 _ rfl ((⟨g,0,none⟩:Addr).add r) rfl _ hcl2.out ?_))
  refine htk.out.mono ?_
  clear htk hcl2 hl32
  rintro e w3 ⟨rfl,hm3,F3,pr3,qss3,hF3,-,hRd3⟩
  have hs2:=hm2.out.size
  have hs3:=hm3.size
  have hFw:∀ k,F3 k→F k∨w.heap.size≤k:=fun k hk=>by
   rcases hF3 k hk with hk | hk
   ·exact hF2.out k hk
   ·exact .inr (by omega)
  have hR3:Rh28 w3 F3 d gR fls ((Rs.set c U.1).set f (ptakP (Rs.getD f []) (r:Int)).1) t qF cF pf cR qT cT (some ⟨g,0,none⟩) cH Hn H:=by
   refine ⟨⟨pr3,qss3,hRd3⟩,hHl,els_modP hE2.out hm3 (fun a ha _=>hne a ha),fun a ha=>?_⟩
   cases ha
   obtain ⟨_,a2,a3,a4,C,hB⟩:=hg.out
   refine ⟨rfl,fun hk=>?_,a3,a4,C,(hB.mod hm2.out a3).mod hm3 a3⟩
   rcases hFw _ hk with hk | hk
   ·exact a2 hk
   ·simp only at hk
    omega
  have hm23:Mod (fun k=>k = gR∨∃ a,(some ⟨g,0,none⟩:Option Addr) = some a∧k = a.block) w w3:=(hm2.out.trans hm3).mono (fun _ _ h=>.inl h)
  obtain ⟨hR4,hm4,hfz⟩:=hR3.give hrH rfl (c:Int)
  have hck:w3.cell? ⟨g,r,none⟩ = some (.int .i64 (H.getD r 0)):=by
   obtain ⟨g',e1,e2⟩:=hR3.cell hrH
   cases e1
   rwa [addr0P] at e2
  have hl33:=Lib.hid (run_cI28 (hRd3.box.cell (i:=3) rfl))
  rw [addr0P] at hR4 hm4 hfz
  have hfin:RslPost w F d gR fls t qF cF pf cR qT cT (some ⟨g,0,none⟩) cH Hn (U.2.1,0,(Rs.set c U.1).set f (ptakP (Rs.getD f []) (r:Int)).1,H.set r (c:Int)) (.returned (.tuple #[.int .i64 U.2.1,.int .i64 0])) (w3.setCell ⟨g,r,none⟩ (.int .i64 (c:Int))):=
   ⟨rfl,hm23.trans (hm4.mono (fun k _ hk=>.inr ⟨_,rfl,hk⟩)),F3,hFw,hR4⟩
  replace hfin:=Lib.hid hfin
  clear hR4 hm4 hR3 hm23 hRd3 hm3 hF3 hFw hE2 hF2 hm2
  go_wp2_with (first | (refine wpList_load_v rfl 35 _ rfl ⟨d,3,none⟩ rfl _ hl33.out ?_) | (refine wpList_v rfl (.pointer (some ((⟨g,0,none⟩:Addr).add r))) (run_ixIn (k:=r) rfl rfl rfl hrH) ?_))
  go_ret2
  exact hfin.out
end
end
end
section
section
open Go.RowKit
structure Tw28 (w0:World) (B:Nat) (t:List Rq) (fls:List (List Ve)) (bs:List Nat) (d gP cP:Nat) (qK:Option Addr) (cK gB Hn:Nat) (i:Nat) (L:List Pc) (H:List Int) (dd gR:Nat) (qF:Option Addr) (cF:Nat) (pf:List (Option Addr × Nat)) (cR:Nat) (qT:Option Addr) (cT:Nat) (qH:Option Addr) (cH:Nat) (F:Nat→Prop) (w:World):Prop where
 st:St28 w0 B t fls bs d gP cP qK cK gB Hn i L H w
 rh:Rh28 w F dd gR fls (rwsL L) t qF cF pf cR qT cT qH cH Hn H
 ap:∀ k,(F k∨k = gR∨k = dd∨∃ a,qH = some a∧k = a.block)→w0.heap.size≤k∧(∀ p ∈ L,¬ p.F k)∧(k ≠ d∧k ≠ gP∧k ≠ gB)∧∀ a,qK = some a→H ≠ []→k ≠ a.block
section
variable {w0 w w':World} {B:Nat} {t:List Rq} {fls:List (List Ve)} {bs:List Nat} {d gP cP:Nat} {qK:Option Addr} {cK gB Hn i:Nat} {L:List Pc} {H:List Int} {dd gR:Nat} {qF:Option Addr} {cF:Nat} {pf:List (Option Addr × Nat)} {cR:Nat} {qT:Option Addr} {cT:Nat} {qH:Option Addr} {cH:Nat} {F:Nat→Prop}
theorem Tw28.below (h:Tw28 w0 B t fls bs d gP cP qK cK gB Hn i L H dd gR qF cF pf cR qT cT qH cH F w) (hb:Below w.heap.size w w'):Tw28 w0 B t fls bs d gP cP qK cK gB Hn i L H dd gR qF cF pf cR qT cT qH cH F w':=
 ⟨h.st.below hb,h.rh.below hb,h.ap⟩
theorem rows4_ext {A B:List (List Rou2)} (hl:A.length = B.length) (h:∀ k,k < A.length→A.getD k [] = B.getD k []):A = B:=
 List.ext_getElem hl fun k h1 h2=>by
  have:=h k h1
  rwa [List.getD_eq_getElem?_getD,List.getD_eq_getElem?_getD,List.getElem?_eq_getElem h1,List.getElem?_eq_getElem h2] at this
theorem rows_set {L L':List Pc} {c f:Nat} {N M:List Rou2} (hl:L'.length = L.length) (hc:c < L.length) (hf:f < L.length) (hfc:f ≠ c) (h:∀ i,i < L.length→(L'.getD i pc0).rows = if i = c then N else if i = f then M else (L.getD i pc0).rows):rwsL L' = ((rwsL L).set c N).set f M:=by
 have hl1:(rwsL L').length = L.length:=by unfold rwsL; rw [List.length_map,hl]
 have hl2:(rwsL L).length = L.length:=by unfold rwsL; rw [List.length_map]
 refine rows4_ext (by rw [List.length_set,List.length_set,hl1,hl2]) fun k hk=>?_
 rw [hl1] at hk
 rw [rwsL_at,h k hk,getD_setS,getD_setS,List.length_set,hl2,rwsL_at]
 by_cases e1:k = c
 ·subst e1
  rw [if_pos rfl,if_neg (fun e=>hfc e.1),if_pos ⟨rfl,hc⟩]
 ·rw [if_neg e1]
  by_cases e2:k = f
  ·subst e2
   rw [if_pos rfl,if_pos ⟨rfl,hf⟩]
  ·rw [if_neg e2,if_neg (fun e=>e2 e.1.symm),if_neg (fun e=>e1 e.1.symm)]
theorem rows_same {L L':List Pc} (hl:L'.length = L.length) (h:∀ i,i < L.length→(L'.getD i pc0).rows = (L.getD i pc0).rows):rwsL L' = rwsL L:=by
 have hl1:(rwsL L').length = L.length:=by unfold rwsL; rw [List.length_map,hl]
 have hl2:(rwsL L).length = L.length:=by unfold rwsL; rw [List.length_map]
 refine rows4_ext (by rw [hl1,hl2]) fun k hk=>?_
 rw [hl1] at hk
 rw [rwsL_at,h k hk,rwsL_at]
theorem St28.succ (h:St28 w0 B t fls bs d gP cP qK cK gB Hn i L H w):St28 w0 B t fls bs d gP cP qK cK gB Hn (i + 1) L H w:=
 { h with eq:=fun c hc=>⟨(h.eq c hc).1,(h.eq c hc).2.1,by have:=(h.eq c hc).2.2; omega⟩ }
def SlPost (w0:World) (B:Nat) (t:List Rq) (fls:List (List Ve)) (bs:List Nat) (d gP cP:Nat) (qK:Option Addr) (cK gB Hn:Nat) (i:Nat) (L:List Pc) (H:List Int) (w:World) (X:Int × Int × List (List Rou2) × List Int) (e:Ending) (w':World):Prop:=
 e = .returned (.tuple #[.int .i64 X.1,.int .i64 X.2.1])∧∃ L',rwsL L' = X.2.2.1∧St28 w0 B t fls bs d gP cP qK cK gB Hn (i + 1) L' X.2.2.2 w'∧(X.2.2.2 ≠ []→H ≠ [])∧(∀ p ∈ L',∀ k,p.F k→(∃ q ∈ L,q.F k)∨w.heap.size≤k)∧
  Mod (fun k=>(∃ q ∈ L,q.F k)∨∃ a,qK = some a∧H ≠ []∧k = a.block) w w'
theorem SlPost.same (h:St28 w0 B t fls bs d gP cP qK cK gB Hn i L H w) {y z:Int} {e:Ending} (he:e = .returned (.tuple #[.int .i64 y,.int .i64 z])) (hb:Below w.heap.size w w'):SlPost w0 B t fls bs d gP cP qK cK gB Hn i L H w (y,z,rwsL L,H) e w':=
 ⟨he,L,rfl,(h.below hb).succ,fun h=>h,fun p hp _ hk=>.inl ⟨p,hp,hk⟩,(Mod.refl _ _).after hb⟩
theorem St28.sellT (h:St28 w0 B t fls bs d gP cP qK cK gB Hn i L H w) (hi:i≤900000) (hHt:Hn≤t.length) (req tv:Int):
  Calls Tryz.prog 16 #[.pointer (some ⟨d,0,none⟩),.int .i64 req,.int .i64 tv] w (SlPost w0 B t fls bs d gP cP qK cK gB Hn i L H w (sel28 fls t (rwsL L) H req tv)):=by
 have hHl:=h.hl
 have hLl:=h.len
 by_cases hr0:req < 0
 ·rw [show sel28 fls t (rwsL L) H req tv = (0,8,rwsL L,H) from if_pos (.inl hr0)]
  exact (dsell_8a req tv hr0 h.dl).mono fun e w' hh=>SlPost.same h hh.1 hh.2
 by_cases hr1:(H.length:Int)≤req
 ·rw [show sel28 fls t (rwsL L) H req tv = (0,8,rwsL L,H) from if_pos (.inr hr1)]
  exact (dsell_8b req tv hr0 hr1 h.dl).mono fun e w' hh=>SlPost.same h hh.1 hh.2
 by_cases htv:¬ (0≤tv∧tv < (L.length:Int))
 ·rw [show sel28 fls t (rwsL L) H req tv = (0,2,rwsL L,H) from by unfold sel28; rw [if_neg (by omega),if_pos (by omega)]]
  exact (dsell_2 req tv hr0 (by omega) htv h.dl).mono fun e w' hh=>SlPost.same h hh.1 hh.2
 obtain ⟨r,rfl⟩:=Int.eq_ofNat_of_zero_le (by omega:0≤req)
 obtain ⟨c,rfl⟩:=Int.eq_ofNat_of_zero_le (by omega:0≤tv)
 have hrH:r < H.length:=by omega
 have hcL:c < L.length:=by omega
 have hcF:c < fls.length:=by omega
 obtain ⟨f,hfF,hf⟩:=h.fine (by omega:r < Hn)
 have hfL:f < L.length:=by omega
 by_cases hfc:f = c
 ·rw [sel28_18 hrH hcF (by rw [hf,hfc])]
  exact (dsell_18 (c:Int) hrH (by omega) (by rw [hf,hfc]) h.dl).mono fun e w' hh=>SlPost.same h hh.1 hh.2
 have hH0:H ≠ []:=fun e=>by rw [e] at hrH; simp at hrH
 have hok:∀ j,j < L.length→PlnOk (L.getD j pc0).fl (L.getD j pc0).rows t:=fun j hj=>(h.pcs.get hj).2.1
 have hflc:(L.getD c pc0).fl = fls.getD c []:=(h.eq c hcF).2.1
 have hho:=h.hol
 refine (dsell_go h.dl h.pcs h.gl.2.1 hrH hcL hfL hf hfc (by have:=(h.eq c hcF).2.2; omega)).mono ?_
 intro e w' hS
 obtain ⟨rfl,L',g1,g2,g3,g4,g5⟩:=hS
 have hgl:=h.gl
 have hsz:=g5.size
 have hqm:∀ k,((∃ j,j < L.length∧(L.getD j pc0).F k)∨∃ a,qK = some a∧k = a.block)→B≤k∧k ≠ gB:=fun k hk=>by
  rcases hk with ⟨j,hj,hk⟩ | ⟨a,ha,rfl⟩
  ·have hm:=mem_getD (d:=pc0) hj
   exact ⟨(h.pcs.get hj).2.2 k hk,fun e=>h.nB _ hm (e ▸ hk)⟩
  ·exact h.kB a ha hH0
 have hF':∀ p ∈ L',∀ k,p.F k→(∃ q ∈ L,q.F k)∨w.heap.size≤k:=fun p hp k hk=>by
  obtain ⟨j,hj,rfl⟩:=List.mem_iff_getElem.1 hp
  have hjL:j < L.length:=by omega
  have e:L'.getD j pc0 = L'[j]:=by rw [List.getD_eq_getElem?_getD,List.getElem?_eq_getElem hj]; rfl
  rcases (g4 j hjL).2.2 k (by rw [e]; exact hk) with hk | hk
  ·exact .inl ⟨_,mem_getD (d:=pc0) hjL,hk⟩
  ·exact .inr hk
 have hMod:Mod (fun k=>(∃ q ∈ L,q.F k)∨∃ a,qK = some a∧H ≠ []∧k = a.block) w w':=g5.mono (fun k _ hk=>by
  rcases hk with ⟨j,hj,hk⟩ | ⟨a,ha,hk⟩
  ·exact .inl ⟨_,mem_getD (d:=pc0) hj,hk⟩
  ·exact .inr ⟨a,ha,hH0,hk⟩)
 have hst:∀ H',DlIn w' d L' H' gP cP qK cK→HoldsR (rwsL L') H'→H'.length = Hn→St28 w0 B t fls bs d gP cP qK cK gB Hn (i + 1) L' H' w':=fun H' hd hh hl=>by
  refine ⟨g1,hd,hh,by rw [g3,hLl],hl,fun k hk=>?_,els_modP h.pls g5 (fun a ha _ hk=>?_),h.bl,⟨by omega,by omega,hgl.2.2⟩,fun p hp hk=>?_,fun a ha _=>h.kB a ha hH0,h.lo.trans (g5.below h.lo.size (fun k hk=>?_))⟩
  ·obtain ⟨⟨a1,a2,a3⟩,_⟩:=g4 k (h.mem hk)
   obtain ⟨b1,b2,b3⟩:=h.eq k hk
   exact ⟨a1.trans b1,a2.trans b2,by omega⟩
  ·cases ha
   exact (hqm _ hk).2 rfl
  ·rcases hF' p hp gB hk with ⟨q,hq,hk⟩ | hk
   ·exact h.nB q hq hk
   ·omega
  ·have:=(hqm k hk).1
   omega
 by_cases hz:(pputP (L.getD c pc0).fl (L.getD c pc0).rows t (r:Int)).2.2 = 0
 ·have hX:=sel28_0 (t:=t) (Rs:=rwsL L) (fls:=fls) hrH hcF hf hfc (by rw [rwsL_at,← hflc]; exact hz)
  rw [rwsL_at,rwsL_at,← hflc] at hX
  rw [hX]
  rw [if_neg (fun e=>e hz)] at g2
  have hrw:∀ j,j < L.length→(L'.getD j pc0).rows = if j = c then (pputP (L.getD c pc0).fl (L.getD c pc0).rows t (r:Int)).1 else if j = f then (ptakP (L.getD f pc0).rows (r:Int)).1 else (L.getD j pc0).rows:=fun j hj=>by
   rw [(g4 j hj).2.1]
   unfold sellR
   rw [if_neg (fun e=>e hz)]
   by_cases e1:j = c
   ·rw [if_pos e1,if_pos e1]
   ·rw [if_neg e1,if_neg e1]
    by_cases e2:j = f
    ·rw [if_pos e2,if_pos e2,e2]
    ·rw [if_neg e2,if_neg e2]
  refine ⟨by rw [hz],L',rows_set g3 hcL hfL hfc hrw,hst _ g2 (holds_sold hho hok hrH hf hfc hcL hz g3 (fun j hj=>(g4 j hj).2.1)) (by rw [List.length_set]; exact hHl),fun _=>hH0,hF',hMod⟩
 ·have hwc:whereP (L.getD c pc0).rows (r:Int) < 0:=by
   have:=((hho r hrH).2 c).1
   rw [rwsL_at,hf] at this
   by_cases h9:0≤whereP (L.getD c pc0).rows (r:Int)
   ·have:=this h9
    omega
   ·omega
  have hc12:=put_c12 (by omega:r < t.length) hwc hz (hok c hcL)
  have hno:=put_no (rows:=(L.getD c pc0).rows) (fun e=>hz ((put_code (L.getD c pc0).fl (L.getD c pc0).rows t (hok c hcL) (r:Int)).trans e))
  rw [sel28_12 (t:=t) (Rs:=rwsL L) (fls:=fls) hrH hcF (by rw [hf]; omega) (by rw [rwsL_at,← hflc]; exact hz)]
  rw [if_pos hz] at g2
  have hrw:∀ j,j < L.length→(L'.getD j pc0).rows = (L.getD j pc0).rows:=fun j hj=>by
   rw [(g4 j hj).2.1]
   unfold sellR
   rw [if_pos hz]
  refine ⟨by rw [hc12,hno],L',rows_same g3 hrw,hst _ g2 (by rw [rows_same g3 hrw]; exact hho) hHl,fun h=>h,hF',hMod⟩
structure Md28 (w0:World) (B:Nat) (t:List Rq) (fls:List (List Ve)) (bs:List Nat) (d gP cP:Nat) (qK:Option Addr) (cK gB Hn:Nat) (i:Nat) (Rs:List (List Rou2)) (H:List Int) (dd gR:Nat) (qF:Option Addr) (cF:Nat) (pf:List (Option Addr × Nat)) (cR:Nat) (qT:Option Addr) (cT:Nat) (qH:Option Addr) (cH:Nat) (F:Nat→Prop) (X:Int × Int × List (List Rou2) × List Int) (w:World):Prop where
 ok:∀ c,c < fls.length→PlnOk (fls.getD c []) (Rs.getD c []) t
 hol:HoldsR Rs H
 len:Rs.length = fls.length
 rh:Rh28 w F dd gR fls Rs t qF cF pf cR qT cT qH cH Hn H
 st:∃ L',rwsL L' = X.2.2.1∧St28 w0 B t fls bs d gP cP qK cK gB Hn (i + 1) L' X.2.2.2 w∧
  ∀ k,(F k∨k = gR∨k = dd∨∃ a,qH = some a∧k = a.block)→w0.heap.size≤k∧(∀ p ∈ L',¬ p.F k)∧(k ≠ d∧k ≠ gP∧k ≠ gB)∧∀ a,qK = some a→X.2.2.2 ≠ []→k ≠ a.block
theorem Md28.below {Rs:List (List Rou2)} {X:Int × Int × List (List Rou2) × List Int} (h:Md28 w0 B t fls bs d gP cP qK cK gB Hn i Rs H dd gR qF cF pf cR qT cT qH cH F X w) (hb:Below w.heap.size w w'):Md28 w0 B t fls bs d gP cP qK cK gB Hn i Rs H dd gR qF cF pf cR qT cT qH cH F X w':=by
 obtain ⟨h1,h2,h3,h4,L',h5,h6,h7⟩:=h
 exact ⟨h1,h2,h3,h4.below hb,L',h5,h6.below hb,h7⟩
theorem Md28.lo {Rs:List (List Rou2)} {X:Int × Int × List (List Rou2) × List Int} (h:Md28 w0 B t fls bs d gP cP qK cK gB Hn i Rs H dd gR qF cF pf cR qT cT qH cH F X w):Below w0.heap.size w0 w:=by
 obtain ⟨_,_,_,_,L',_,h6,_⟩:=h
 exact h6.lo
theorem Tw28.sell1 (h:Tw28 w0 B t fls bs d gP cP qK cK gB Hn i L H dd gR qF cF pf cR qT cT qH cH F w) (hi:i≤900000) (hHt:Hn≤t.length) (req tv:Int):
  Calls Tryz.prog 16 #[.pointer (some ⟨d,0,none⟩),.int .i64 req,.int .i64 tv] w fun e w1=>e = .returned (.tuple #[.int .i64 (sel28 fls t (rwsL L) H req tv).1,.int .i64 (sel28 fls t (rwsL L) H req tv).2.1])∧
   Md28 w0 B t fls bs d gP cP qK cK gB Hn i (rwsL L) H dd gR qF cF pf cR qT cT qH cH F (sel28 fls t (rwsL L) H req tv) w1:=by
 have hst:=h.st
 have hok:∀ c,c < fls.length→PlnOk (fls.getD c []) ((rwsL L).getD c []) t:=fun c hc=>by
  have:=(hst.pcs.get (hst.mem hc)).2.1
  rw [(hst.eq c hc).2.1] at this
  rw [rwsL_at]
  exact this
 have hRl:(rwsL L).length = fls.length:=by unfold rwsL; rw [List.length_map]; exact hst.len
 have hlt:=h.rh.lt
 refine (hst.sellT hi hHt req tv).mono ?_
 intro e w1 hS
 obtain ⟨he,L',hR',hst',hH',hF',hm⟩:=hS
 refine ⟨he,?_⟩
 have hdis:∀ k,((∃ q ∈ L,q.F k)∨∃ a,qK = some a∧H ≠ []∧k = a.block)→¬ (F k∨k = gR∨k = dd∨∃ a,qH = some a∧k = a.block):=fun k hk hG=>by
  obtain ⟨_,h2,_,h4⟩:=h.ap k hG
  rcases hk with ⟨q,hq,hk⟩ | ⟨a,ha,h0,rfl⟩
  ·exact h2 q hq hk
  ·exact h4 a ha h0 rfl
 have hrh1:=h.rh.mod hm (fun k hk hF=>hdis k hk (.inl hF)) (fun hk=>hdis _ hk (.inr (.inl rfl))) (fun hk=>hdis _ hk (.inr (.inr (.inl rfl)))) (fun a ha hk=>hdis _ hk (.inr (.inr (.inr ⟨a,ha,rfl⟩))))
 have hap1:∀ k,(F k∨k = gR∨k = dd∨∃ a,qH = some a∧k = a.block)→k < w.heap.size:=fun k hk=>by
  rcases hk with hk | rfl | rfl | ⟨a,ha,rfl⟩
  ·exact hlt.1 k hk
  ·exact hlt.2.1
  ·exact hlt.2.2.1
  ·exact hlt.2.2.2 a ha
 refine ⟨hok,hst.hol,hRl,hrh1,L',hR',hst',fun k hk=>?_⟩
 obtain ⟨a1,a2,a3,a4⟩:=h.ap k hk
 refine ⟨a1,fun p hp hF=>?_,a3,fun a ha h0=>a4 a ha (hH' h0)⟩
 rcases hF' p hp k hF with ⟨q,hq,hk2⟩ | hk2
 ·exact a2 q hq hk2
 ·have:=hap1 k hk
  omega
theorem Md28.sell2 {Rs:List (List Rou2)} (req tv:Int) (h:Md28 w0 B t fls bs d gP cP qK cK gB Hn i Rs H dd gR qF cF pf cR qT cT qH cH F (sel28 fls t Rs H req tv) w) (hn:fls.length≤8) (hHt:Hn≤t.length) (hH64:Hn≤64):
  Calls Tryz.prog 24 #[.pointer (some ⟨dd,0,none⟩),.int .i64 req,.int .i64 tv] w fun e w2=>e = .returned (.tuple #[.int .i64 (sel28 fls t Rs H req tv).1,.int .i64 (sel28 fls t Rs H req tv).2.1])∧
   ∃ L' H' F',Tw28 w0 B t fls bs d gP cP qK cK gB Hn (i + 1) L' H' dd gR qF cF pf cR qT cT qH cH F' w2:=by
 obtain ⟨hok,hho,hRl,hrh1,L',hR',hst',hap⟩:=h
 refine (rsell28_calls hrh1 hn hok hho hRl hHt hH64 req tv).mono ?_
 intro e2 w2 hS2
 obtain ⟨he2,hm2,F2,hF2,hrh2⟩:=hS2
 refine ⟨he2,L',(sel28 fls t Rs H req tv).2.2.2,F2,⟨?_,?_,?_⟩⟩
 ·-- the program's side is as it was
  have hG:∀ k,(k = gR∨∃ a,qH = some a∧k = a.block)→(F k∨k = gR∨k = dd∨∃ a,qH = some a∧k = a.block):=fun k hk=>by
   rcases hk with hk | hk
   ·exact .inr (.inl hk)
   ·exact .inr (.inr (.inr hk))
  have hnp:=fun k hk=>hap k (hG k hk)
  refine ⟨hst'.pcs.mod hm2 (fun p hp k hk=>(hnp k hk).2.1 p hp),hst'.dl.mod hm2 (fun hk=>(hnp _ hk).2.2.1.1 rfl) (fun hk=>(hnp _ hk).2.2.1.2.1 rfl) (fun a ha h0 hk=>(hnp _ hk).2.2.2 a ha h0 rfl),hst'.hol,hst'.len,hst'.hl,hst'.eq,els_modP hst'.pls hm2 (fun a ha _ hk=>by cases ha; exact (hnp _ hk).2.2.1.2.2 rfl),hst'.bl,⟨by have:=hst'.gl.1; have:=hm2.size; omega,by have:=hst'.gl.2.1; have:=hm2.size; omega,hst'.gl.2.2⟩,hst'.nB,hst'.kB,hst'.lo.trans (hm2.below hst'.lo.size (fun k hk=>(hnp k hk).1))⟩
 ·rw [hR']
  exact hrh2
 ·intro k hk
  have hk2:(F k∨k = gR∨k = dd∨∃ a,qH = some a∧k = a.block)∨w.heap.size≤k:=by
   rcases hk with hk | hk
   ·rcases hF2 k hk with hk | hk
    ·exact .inl (.inl hk)
    ·exact .inr hk
   ·exact .inl (.inr hk)
  have hgl:=hst'.gl
  have hdl:=hst'.dl.lt
  rcases hk2 with hk2 | hk2
  ·exact hap k hk2
  ·refine ⟨by have:=hst'.lo.size; omega,fun p hp hF=>?_,⟨by omega,by omega,by omega⟩,fun a ha h0 e=>?_⟩
   ·have:=(hst'.pcs.at_ p hp).own.2.2.2 k hF
    omega
   ·have:=hst'.und.2 a ha h0
    omega
end
end
end
end Go.Proofs.YtkaoflndbcfodaaGreat
