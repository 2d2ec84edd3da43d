/-
  The row 'DealNew': a pack of the texts Dlp Hp28 Bk28, pruned to what the row uses.
-/
import Derived.Test.YtkaoflndbcfodaaGreatDealNewQ25
import Derived.Test.YtkaoflndbcfodaaGreatDealNewQ26
namespace Go.Proofs.YtkaoflndbcfodaaGreat
set_option maxHeartbeats 8000000
set_option maxRecDepth 100000
section
open Go.RowKit
def cntR (Rs:List (List Rou2)) (t:List Rq):Nat→Int→Option Int
 | 0=>fun _=>none
 | k + 1=>(allQ (Rs.getD k []) t).foldl updM (cntR Rs t k)
def holdER (Rs:List (List Rou2)) (t:List Rq) (H:List Int) (r:Nat):Int:=
 if ¬ (0≤H.getD r 0∧H.getD r 0 < (Rs.length:Int))∨decide (0≤whereP (Rs.getD (H.getD r 0).toNat []) r) = false then 12
 else if 1 < ((cntR Rs t Rs.length (r:Int)).getD 0) then 13 else 0
def holdKR (Rs:List (List Rou2)) (t:List Rq) (H:List Int):Nat→Int
 | 0=>0
 | r + 1=>if holdKR Rs t H r ≠ 0 then holdKR Rs t H r else holdER Rs t H r
def rwsO (Q:List (Option Pc)):List (List Rou2):=Q.map fun o=>(o.getD pc0).rows
theorem rwsO_at (Q:List (Option Pc)) (i:Nat):(rwsO Q).getD i [] = ((Q.getD i none).getD pc0).rows:=by
 unfold rwsO
 rw [List.getD_eq_getElem?_getD,List.getElem?_map,List.getD_eq_getElem?_getD]
 cases Q[i]? with
 | none=>rfl
 | some o=>rfl
theorem cntM_R (Q:List (Option Pc)) (t:List Rq):∀ k,cntM Q t k = cntR (rwsO Q) t k
 | 0=>rfl
 | k + 1=>by
  rw [cntM_succ,cntM_R Q t k]
  show _ = (allQ ((rwsO Q).getD k []) t).foldl updM (cntR (rwsO Q) t k)
  rw [rwsO_at]
theorem holdK_R (Q:List (Option Pc)) (t:List Rq) (H:List Int):∀ k,holdK Q t H k = holdKR (rwsO Q) t H k
 | 0=>rfl
 | k + 1=>by
  have e:holdE Q t H k = holdER (rwsO Q) t H k:=by
   unfold holdE holdER
   rw [cntM_R,rwsO_at,show (rwsO Q).length = Q.length from by unfold rwsO; rw [List.length_map]]
   rfl
  show (if holdK Q t H k ≠ 0 then holdK Q t H k else holdE Q t H k) = if holdKR (rwsO Q) t H k ≠ 0 then holdKR (rwsO Q) t H k else holdER (rwsO Q) t H k
  rw [holdK_R Q t H k,e]
theorem dlC_two {P Q:Pc} {t:List Rq} {H:List Int} (hne:P.b ≠ Q.b) (hH:H.length≤64):dlC [some P,some Q] t H = holdKR [P.rows,Q.rows] t H H.length:=by
 have h1:¬ ([some P,some Q].length < 1∨8 < [some P,some Q].length∨64 < H.length):=by simp; omega
 have h2:(List.range [some P,some Q].length).any (fun k=>decide (ptrA ([some P,some Q].getD k none) = none)) = false:=rfl
 have h3:(List.range [some P,some Q].length).any (twiceAt [some P,some Q]) = false:=by
  have hp:¬ ptrA (some P) = ptrA (some Q):=fun e=>hne (by
   have:(⟨P.b,0,none⟩:Addr) = ⟨Q.b,0,none⟩:=Option.some.inj e
   exact congrArg Addr.block this)
  have e0:twiceAt [some P,some Q] 0 = false:=by
   unfold twiceAt
   simp [List.range_succ]
  have e1:twiceAt [some P,some Q] 1 = false:=by
   unfold twiceAt
   simp [List.range_succ,hp]
  show (List.range 2).any _ = false
  simp [List.range_succ,e0,e1]
 unfold dlC
 rw [if_neg h1,if_neg (by rw [h2]; simp),if_neg (by rw [h3]; simp),holdK_R]
 rfl
def hasR (Rs:List (List Rou2)) (i:Nat) (r:Int):Bool:=decide (0≤whereP (Rs.getD i []) r)
def rightR (Rs:List (List Rou2)) (H:List Int) (k:Nat):Bool:=(List.range k).all fun r=>hasR Rs (H.getD r 0).toNat r && !((List.range Rs.length).any fun j=>((j:Int) != H.getD r 0) && hasR Rs j r)
def rwsL (L:List Pc):List (List Rou2):=L.map (·.rows)
theorem rwsL_at (L:List Pc) (i:Nat):(rwsL L).getD i [] = (L.getD i pc0).rows:=by
 unfold rwsL
 rw [List.getD_eq_getElem?_getD,List.getElem?_map,List.getD_eq_getElem?_getD]
 cases L[i]? with
 | none=>rfl
 | some o=>rfl
theorem rightB_R (L:List Pc) (H:List Int) (k:Nat):rightB L H k = rightR (rwsL L) H k:=by
 have h1:∀ i r,hasB (L.getD i pc0) r = hasR (rwsL L) i r:=fun i r=>by
  unfold hasB hasR
  rw [rwsL_at]
 have hl:(rwsL L).length = L.length:=by unfold rwsL; rw [List.length_map]
 unfold rightB rightR othB
 simp only [h1,hl]
theorem list_two {α:Type} (L:List α) (d:α) (h:L.length = 2):L = [L.getD 0 d,L.getD 1 d]:=by
 match L,h with
 | [a,b],_=>rfl
def wkT:List Rq:=[rqMk [10,0,20,0,0,1000,0,1000,1,0]]
def wkF:List Ve:=[rqMk [0,0,5,0,100]]
def wkG:List Ve:=[rqMk [30,0,5,0,100]]
theorem wk_new:newC wkF wkT = 0:=by decide +kernel
theorem wk_newG:newC wkG wkT = 0:=by decide +kernel
theorem wk_put:pputP wkF (rows0 wkF) wkT 0 = ([prL 0],40,0):=by decide +kernel
theorem wk_putG:pputP wkG (rows0 wkG) wkT 0 = ([prL 0],40,0):=by decide +kernel
theorem wk_hold:holdKR [[prL 0],rows0 wkG] wkT [0] 1 = 0:=by decide +kernel
theorem wk_tot:totP wkF [prL 0] wkT + totP wkG (rows0 wkG) wkT = 40:=by decide +kernel
theorem wk_take:(ptakP [prL 0] 0).1 = [[]]:=by decide +kernel
theorem wk_tot2:totP wkF [[]] wkT + totP wkG [prL 0] wkT = 40:=by decide +kernel
theorem wk_right:rightR [[[]],[prL 0]] [1] 1 = true:=by decide +kernel
end
section
open Go.RowKit
theorem where_iff {rows:List Rou2} {q:Int}:0≤whereP rows q↔∃ (j:Nat) (s:Int × Int),s ∈ rows.getD j []∧s.1 = q:=by
 constructor
 ·intro h
  obtain ⟨i,hi,_,s,hs,e⟩:=where_some h
  refine ⟨i,s,?_,e⟩
  rw [List.getD_eq_getElem?_getD,List.getElem?_eq_getElem hi]
  exact hs
 ·rintro ⟨j,s,hs,e⟩
  rcases Int.lt_or_le (whereP rows q) 0 with h | h
  ·exact absurd e (where_getD h hs)
  ·exact h
theorem put_where {fl:List Ve} {rows:List Rou2} {t:List Rq} {r:Int} (hP:PlnOk fl rows t) (h:(pputP fl rows t r).2.2 = 0) (q:Int):0≤whereP (pputP fl rows t r).1 q↔q = r∨0≤whereP rows q:=by
 have h0:(prcP fl rows t r).2.2 = 0:=by
  rcases Decidable.em ((prcP fl rows t r).2.2 = 0) with h1 | h1
  ·exact h1
  ·rw [put_no h1] at h
   exact h
 obtain ⟨i,a,b,hi,hab,hbl,_,hr,hw,hR,_,_,_,e⟩:=put_ok hP h0
 rw [e]
 dsimp only
 rw [where_iff,where_iff]
 have hil:i < rows.length:=by rw [hP.len]; exact hi
 constructor
 ·rintro ⟨j,s,hs,e1⟩
  rw [getD_setS] at hs
  by_cases hij:i = j∧i < rows.length
  ·rw [if_pos hij] at hs
   rcases (withL_in hab hbl).1 hs with rfl | rfl | hs
   ·exact .inl e1.symm
   ·exact .inl e1.symm
   ·exact .inr ⟨i,s,hs,e1⟩
  ·rw [if_neg hij] at hs
   exact .inr ⟨j,s,hs,e1⟩
 ·rintro (rfl | ⟨j,s,hs,e1⟩)
  ·exact ⟨i,(q,0),by rw [getD_setS,if_pos ⟨rfl,hil⟩]; exact (withL_in hab hbl).2 (.inl rfl),rfl⟩
  ·refine ⟨j,s,?_,e1⟩
   rw [getD_setS]
   by_cases hij:i = j∧i < rows.length
   ·rw [if_pos hij]
    rw [← hij.1] at hs
    exact (withL_in hab hbl).2 (.inr (.inr hs))
   ·rw [if_neg hij]
    exact hs
theorem put_c0 {fl:List Ve} {rows:List Rou2} {t:List Rq} {r:Int} (hP:PlnOk fl rows t):(prcP fl rows t r).2.2 = 0↔(pputP fl rows t r).2.2 = 0:=by
 constructor
 ·intro h
  obtain ⟨i,a,b,_,_,_,_,_,_,_,_,_,_,e⟩:=put_ok hP h
  rw [e]
 ·intro h
  rcases Decidable.em ((prcP fl rows t r).2.2 = 0) with h1 | h1
  ·exact h1
  ·rw [put_no h1] at h
   exact h
theorem put_wno {fl:List Ve} {rows:List Rou2} {t:List Rq} {r:Int} (hP:PlnOk fl rows t) (h:(pputP fl rows t r).2.2 ≠ 0):(pputP fl rows t r).1 = rows:=by
 rw [put_no (fun e=>h ((put_c0 hP).1 e))]
def rsH (fls:List (List Ve)) (t:List Rq) (H:List Int):Nat→List (List Rou2)
 | 0=>fls.map rows0
 | k + 1=>(rsH fls t H k).set (H.getD k 0).toNat (pputP (fls.getD (H.getD k 0).toNat []) ((rsH fls t H k).getD (H.getD k 0).toNat []) t k).1
def okH (fls:List (List Ve)) (t:List Rq) (H:List Int) (k:Nat):Prop:=
 ∀ j,j < k→(0≤H.getD j 0∧H.getD j 0 < (fls.length:Int))∧(pputP (fls.getD (H.getD j 0).toNat []) ((rsH fls t H j).getD (H.getD j 0).toNat []) t j).2.2 = 0
theorem rsH_len (fls:List (List Ve)) (t:List Rq) (H:List Int):∀ k,(rsH fls t H k).length = fls.length
 | 0=>by simp [rsH]
 | k + 1=>by
  unfold rsH
  rw [List.length_set]
  exact rsH_len fls t H k
theorem rsH_congr (fls:List (List Ve)) (t:List Rq) (H H':List Int):∀ k,(∀ j,j < k→H.getD j 0 = H'.getD j 0)→rsH fls t H k = rsH fls t H' k
 | 0,_=>rfl
 | k + 1,h=>by
  unfold rsH
  rw [rsH_congr fls t H H' k (fun j hj=>h j (by omega)),h k (by omega)]
theorem okH_congr {fls:List (List Ve)} {t:List Rq} {H H':List Int} {k:Nat} (h:∀ j,j < k→H.getD j 0 = H'.getD j 0) (ho:okH fls t H k):okH fls t H' k:=fun j hj=>by
 have:=ho j hj
 rw [← h j hj,← rsH_congr fls t H H' j (fun i hi=>h i (by omega))]
 exact this
theorem rsH_at {fls:List (List Ve)} {t:List Rq} {H:List Int} (hN:∀ c,c < fls.length→newC (fls.getD c []) t = 0):∀ k,k≤t.length→okH fls t H k→∀ c,c < fls.length→
  PlnOk (fls.getD c []) ((rsH fls t H k).getD c []) t∧∀ q:Int,0≤whereP ((rsH fls t H k).getD c []) q↔∃ r:Nat,r < k∧q = r∧(c:Int) = H.getD r 0
 | 0,_,_,c,hc=>by
  have e:(rsH fls t H 0).getD c [] = rows0 (fls.getD c []):=by
   show (fls.map rows0).getD c [] = _
   rw [List.getD_eq_getElem?_getD,List.getElem?_map,List.getD_eq_getElem?_getD,List.getElem?_eq_getElem hc]
   rfl
  rw [e]
  refine ⟨ok0 (hN c hc),fun q=>⟨fun h=>?_,fun h=>?_⟩⟩
  ·obtain ⟨j,s,hs,_⟩:=where_iff.1 h
   rw [rows0_at] at hs
   cases hs
  ·obtain ⟨r,hr,_⟩:=h
   omega
 | k + 1,hk,ho,c,hc=>by
  have ih:=rsH_at hN k (by omega) (fun j hj=>ho j (by omega))
  obtain ⟨⟨o1,o2⟩,o3⟩:=ho k (by omega)
  obtain ⟨n,hn⟩:=Int.eq_ofNat_of_zero_le o1
  have hnl:n < fls.length:=by omega
  have hlen:=rsH_len fls t H k
  unfold rsH
  rw [hn,Int.toNat_natCast] at o3 ⊢
  obtain ⟨i1,i2⟩:=ih n hnl
  rw [getD_setS]
  by_cases e:n = c
  ·subst e
   rw [if_pos ⟨rfl,by omega⟩]
   refine ⟨put_keeps i1 _,fun q=>?_⟩
   rw [put_where i1 o3,i2]
   constructor
   ·rintro (rfl | ⟨r,hr,e1,e2⟩)
    ·exact ⟨k,by omega,rfl,hn.symm⟩
    ·exact ⟨r,by omega,e1,e2⟩
   ·rintro ⟨r,hr,e1,e2⟩
    by_cases hrk:r = k
    ·rw [hrk] at e1
     exact .inl e1
    ·exact .inr ⟨r,by omega,e1,e2⟩
  ·rw [if_neg (fun h=>e h.1)]
   obtain ⟨j1,j2⟩:=ih c hc
   refine ⟨j1,fun q=>?_⟩
   rw [j2]
   constructor
   ·rintro ⟨r,hr,e1,e2⟩
    exact ⟨r,by omega,e1,e2⟩
   ·rintro ⟨r,hr,e1,e2⟩
    refine ⟨r,?_,e1,e2⟩
    rcases Nat.lt_or_ge r k with h | h
    ·exact h
    ·obtain rfl:r = k:=by omega
     rw [hn] at e2
     omega
theorem rsH_new {fls:List (List Ve)} {t:List Rq} {H:List Int} (hN:∀ c,c < fls.length→newC (fls.getD c []) t = 0) {k:Nat} (hk:k≤t.length) (ho:okH fls t H k) {c:Nat} (hc:c < fls.length):whereP ((rsH fls t H k).getD c []) (k:Int) < 0:=by
 rcases Int.lt_or_le (whereP ((rsH fls t H k).getD c []) (k:Int)) 0 with h | h
 ·exact h
 ·obtain ⟨r,hr,e,_⟩:=((rsH_at hN k hk ho c hc).2 k).1 h
  omega
theorem okH_snoc {fls:List (List Ve)} {t:List Rq} {H:List Int} {c:Nat} (ho:okH fls t H H.length) (hc:c < fls.length) (h:(pputP (fls.getD c []) ((rsH fls t H H.length).getD c []) t (H.length:Int)).2.2 = 0):
  okH fls t (H ++ [(c:Int)]) (H.length + 1)∧rsH fls t (H ++ [(c:Int)]) (H.length + 1) = (rsH fls t H H.length).set c (pputP (fls.getD c []) ((rsH fls t H H.length).getD c []) t (H.length:Int)).1:=by
 have e:∀ j,j < H.length→H.getD j 0 = (H ++ [(c:Int)]).getD j 0:=fun j hj=>by
  rw [List.getD_eq_getElem?_getD,List.getD_eq_getElem?_getD,List.getElem?_append_left hj]
 have e2:(H ++ [(c:Int)]).getD H.length 0 = (c:Int):=by
  rw [List.getD_eq_getElem?_getD,List.getElem?_append_right (Nat.le_refl _),Nat.sub_self]
  rfl
 have e3:rsH fls t (H ++ [(c:Int)]) H.length = rsH fls t H H.length:=(rsH_congr fls t H _ H.length e).symm
 constructor
 ·intro j hj
  by_cases hjl:j < H.length
  ·exact okH_congr e ho j hjl
  ·obtain rfl:j = H.length:=by omega
   rw [e2,e3,Int.toNat_natCast]
   exact ⟨⟨by omega,by omega⟩,h⟩
 ·show (rsH fls t (H ++ [(c:Int)]) H.length).set _ _ = _
  rw [e2,e3,Int.toNat_natCast]
theorem foldl_cnt:∀ (xs:List Int) (m:Int→Option Int) (i:Int),((xs.foldl updM m) i).getD 0 = (m i).getD 0 + (xs.count i:Nat)
 | [],m,i=>by simp
 | x :: xs,m,i=>by
  rw [List.foldl_cons,foldl_cnt xs (updM m x) i,List.count_cons]
  unfold updM
  by_cases h:i = x
  ·rw [if_pos h,h]
   simp
   omega
  ·rw [if_neg h,if_neg (by simpa using fun e=>h e.symm)]
   simp
theorem range_cnt (r:Nat):∀ n:Nat,((List.range n).map fun i:Nat=>(i:Int)).count (r:Int) = if r < n then 1 else 0
 | 0=>by simp
 | n + 1=>by
  rw [List.range_succ,List.map_append,List.count_append,range_cnt r n,List.map_cons,List.map_nil,List.count_singleton]
  by_cases h2:n = r
  ·subst h2
   simp
  ·have e:((n:Int) == (r:Int)) = false:=beq_eq_false_iff_ne.2 (by omega)
   rw [e]
   by_cases h:r < n
   ·rw [if_pos h,if_pos (by omega:r < n + 1)]
    rfl
   ·rw [if_neg h,if_neg (by omega:¬ r < n + 1)]
    rfl
theorem allQ_cnt (rows:List Rou2) (t:List Rq) (r:Nat):(allQ rows t).count (r:Int)≤if 0≤whereP rows (r:Int) then 1 else 0:=by
 unfold allQ
 by_cases h:0≤whereP rows (r:Int)
 ·rw [if_pos h,List.count_filter (by simpa using h),range_cnt]
  split <;> omega
 ·rw [if_neg h]
  have:(r:Int) ∉ ((List.range t.length).map fun i:Nat=>(i:Int)).filter fun r=>decide (0≤whereP rows r):=fun hm=>h (by simpa using (List.mem_filter.1 hm).2)
  rw [List.count_eq_zero_of_not_mem this]
  exact Nat.le_refl _
theorem cntR_one {Rs:List (List Rou2)} {t:List Rq} {r h:Nat} (hh:∀ c,c ≠ h→¬ 0≤whereP (Rs.getD c []) (r:Int)):∀ k,(cntR Rs t k (r:Int)).getD 0≤if h < k then 1 else 0
 | 0=>by simp [cntR]
 | k + 1=>by
  have ih:=cntR_one (t:=t) hh k
  show (((allQ (Rs.getD k []) t).foldl updM (cntR Rs t k)) (r:Int)).getD 0≤_
  rw [foldl_cnt]
  have h1:=allQ_cnt (Rs.getD k []) t r
  by_cases e:k = h
  ·subst e
   rw [if_neg (by omega)] at ih
   rw [if_pos (by omega)]
   split at h1 <;> omega
  ·rw [if_neg (hh k e)] at h1
   split at ih
   ·rw [if_pos (by omega)]; omega
   ·rw [if_neg (by omega)]; omega
def HoldsR (Rs:List (List Rou2)) (H:List Int):Prop:=∀ r,r < H.length→(0≤H.getD r 0∧H.getD r 0 < (Rs.length:Int))∧∀ c:Nat,0≤whereP (Rs.getD c []) (r:Int)↔(c:Int) = H.getD r 0
theorem hold_zero {Rs:List (List Rou2)} {t:List Rq} {H:List Int} (h:HoldsR Rs H):∀ m,m≤H.length→holdKR Rs t H m = 0
 | 0,_=>rfl
 | m + 1,hm=>by
  have ih:=hold_zero (t:=t) h m (by omega)
  obtain ⟨h1,h2⟩:=h m (by omega)
  show (if holdKR Rs t H m ≠ 0 then holdKR Rs t H m else holdER Rs t H m) = 0
  rw [if_neg (by omega)]
  unfold holdER
  have h3:0≤whereP (Rs.getD (H.getD m 0).toNat []) (m:Int):=(h2 _).2 (by omega)
  rw [if_neg (by
   rintro (h4 | h4)
   ·exact h4 h1
   ·rw [decide_eq_true h3] at h4; cases h4),if_neg]
  have:=cntR_one (Rs:=Rs) (t:=t) (r:=m) (h:=(H.getD m 0).toNat) (fun c hc h5=>hc (by have:=(h2 c).1 h5; omega)) Rs.length
  split at this <;> omega
theorem map_some_at (L:List Pc) {k:Nat} (hk:k < L.length):(L.map some).getD k none = some (L.getD k pc0):=by
 rw [List.getD_eq_getElem?_getD,List.getElem?_map,List.getD_eq_getElem?_getD,List.getElem?_eq_getElem hk]
 rfl
theorem dlC_many {L:List Pc} {t:List Rq} {H:List Int} (hL:1≤L.length∧L.length≤8) (hH:H.length≤64) (hb:∀ i j,i < L.length→j < L.length→i ≠ j→(L.getD i pc0).b ≠ (L.getD j pc0).b):dlC (L.map some) t H = holdKR (rwsL L) t H H.length:=by
 unfold dlC
 rw [List.length_map,if_neg (by omega),if_neg,if_neg,holdK_R]
 ·congr 1
  unfold rwsO rwsL
  rw [List.map_map]
  rfl
 ·rw [Bool.not_eq_true,List.any_eq_false]
  intro c hc
  rw [List.mem_range] at hc
  rw [Bool.not_eq_true]
  unfold twiceAt
  rw [List.any_eq_false]
  intro o ho
  rw [List.mem_range,List.length_map] at ho
  rw [map_some_at L ho,map_some_at L hc]
  simp only [Bool.and_eq_true,decide_eq_true_eq,not_and]
  intro h1 h2
  have h3:(⟨(L.getD o pc0).b,0,none⟩:Addr) = ⟨(L.getD c pc0).b,0,none⟩:=Option.some.inj h2
  exact hb o c ho hc (by omega) (congrArg Addr.block h3)
 ·rw [Bool.not_eq_true,List.any_eq_false]
  intro c hc
  rw [List.mem_range] at hc
  rw [map_some_at L hc]
  simp [ptrA]
theorem rsH_holds {fls:List (List Ve)} {t:List Rq} {H:List Int} (hN:∀ c,c < fls.length→newC (fls.getD c []) t = 0) (hl:H.length≤t.length) (ho:okH fls t H H.length):HoldsR (rsH fls t H H.length) H:=fun r hr=>by
 have hlen:=rsH_len fls t H H.length
 refine ⟨by have:=(ho r hr).1; omega,fun c=>?_⟩
 by_cases hc:c < fls.length
 ·rw [(rsH_at hN _ hl ho c hc).2]
  constructor
  ·rintro ⟨r',_,e,h⟩
   obtain rfl:r = r':=by omega
   exact h
  ·intro h
   exact ⟨r,hr,rfl,h⟩
 ·have e:(rsH fls t H H.length).getD c [] = []:=by
   rw [List.getD_eq_getElem?_getD,List.getElem?_eq_none (by omega)]
   rfl
  rw [e]
  have:=(ho r hr).1
  constructor
  ·intro h
   obtain ⟨j,s,hs,_⟩:=where_iff.1 h
   simp at hs
  ·intro h
   omega
end
section
section
open Go.RowKit
theorem hdV_snoc {α:Type} (X:List (List α)) (qs:List (Option Addr × Nat)) (hl:qs.length = X.length) (l:List α) (q:Option Addr) (d:Nat):hdV (X ++ [l]) (qs ++ [(q,d)]) = hdV X qs ++ [[.slice q l.length d]]:=by
 unfold hdV
 rw [List.length_append,List.length_singleton,List.range_succ,List.map_append]
 congr 1
 ·apply List.map_congr_left
  intro i hi
  have hi':=List.mem_range.1 hi
  rw [List.getD_eq_getElem?_getD,List.getD_eq_getElem?_getD,List.getElem?_append_left (by omega),List.getElem?_append_left hi',← List.getD_eq_getElem?_getD,← List.getD_eq_getElem?_getD]
 ·simp only [List.map_cons,List.map_nil]
  rw [List.getD_eq_getElem?_getD,List.getD_eq_getElem?_getD,List.getElem?_append_right (by omega),List.getElem?_append_right (Nat.le_refl _),hl,Nat.sub_self]
  rfl
theorem getD_snoc28 {α:Type} (l:List α) (x d:α) (i:Nat):(l ++ [x]).getD i d = if i < l.length then l.getD i d else if i = l.length then x else d:=by
 rw [List.getD_eq_getElem?_getD]
 by_cases h:i < l.length
 ·rw [if_pos h,List.getElem?_append_left h,List.getD_eq_getElem?_getD]
 ·rw [if_neg h,List.getElem?_append_right (by omega)]
  by_cases h2:i = l.length
  ·rw [if_pos h2,h2,Nat.sub_self]
   rfl
  ·rw [if_neg h2,List.getElem?_eq_none (by simp; omega)]
   rfl
theorem hdV_len {α:Type} (X:List (List α)) (qs:List (Option Addr × Nat)):∀ x ∈ hdV X qs,x.length = 1:=by
 intro x hx
 obtain ⟨i,_,rfl⟩:=List.mem_map.1 hx
 rfl
def nil28 (n:Nat):List Value:=List.replicate n (.slice none 0 0)
theorem run_mk28 (n:Nat) (hn:1≤n∧n≤2) (w:World):(Instr.makeSlice 106 (.int .i64 (n:Int)) (.int .i64 (n:Int))).run Tryz.prog w = .ok (.slice (some ⟨w.heap.size,0,none⟩) n n) (w.alloc (.cells (nil28 n).toArray 82)):=by
 obtain rfl | rfl:n = 1∨n = 2:=by omega
 all_goals kernel_rfl
structure BkA (w:World) (base d g0 gX:Nat) (C:Array Value) (qT:Option Addr) (t:List Rq) (fF fR:List (List Ve)) (pf pr:List (Option Addr × Nat)):Prop where
 blkC:Blk w g0 C 26
 req:Els w qT 10 (t.map rqV)
 lo:g0 < base∧gX < base∧d < base∧g0 ≠ d∧gX ≠ d∧g0 ≠ gX
 loT:∀ a,qT = some a→a.block < base∧a.block ≠ d∧a.block ≠ gX
 flt:∀ c,c < fF.length→Els w (pf.getD c (none,0)).1 5 ((fF.getD c []).map veR)∧∀ a,(pf.getD c (none,0)).1 = some a→base≤a.block∧∃ C,Blk w a.block C 59
 rws:∀ c,c < fR.length→∃ g,(pr.getD c (none,0)).1 = some ⟨g,0,none⟩∧base≤g∧Blk w g (nil28 (fR.getD c []).length).toArray 82
 len:pf.length = fF.length∧pr.length = fR.length
section
variable {w w':World} {base d g0 gX:Nat} {C:Array Value} {qT:Option Addr} {dT:Nat} {t:List Rq} {fF fR:List (List Ve)} {vF vR:Value} {pf pr:List (Option Addr × Nat)}
theorem BkA.mod (h:BkA w base d g0 gX C qT t fF fR pf pr) {S:Nat→Prop} (hm:Mod S w w') (h1:¬ S g0) (h3:∀ a,qT = some a→¬ S a.block) (h6:∀ g C,base≤g→Blk w g C 59→¬ S g) (h7:∀ g C,base≤g→Blk w g C 82→¬ S g):BkA w' base d g0 gX C qT t fF fR pf pr:=
 ⟨h.blkC.mod hm h1,els_modP h.req hm (fun a ha _=>h3 a ha),h.lo,h.loT,
  fun c hc=>⟨els_modP (h.flt c hc).1 hm (fun a ha _=>by obtain ⟨hb,C,hB⟩:=(h.flt c hc).2 a ha; exact h6 _ C hb hB),fun a ha=>by obtain ⟨hb,C,hB⟩:=(h.flt c hc).2 a ha; exact ⟨hb,C,hB.mod hm (h6 _ C hb hB)⟩⟩,
  fun c hc=>by obtain ⟨g,e,hg,hB⟩:=h.rws c hc; exact ⟨g,e,hg,hB.mod hm (h7 _ _ hg hB)⟩,h.len⟩
structure BkIn (w:World) (base d g0 gX:Nat) (C:Array Value) (qT:Option Addr) (dT:Nat) (t:List Rq) (fF fR:List (List Ve)) (vF vR:Value) (pf pr:List (Option Addr × Nat)):Prop where
 a:BkA w base d g0 gX C qT t fF fR pf pr
 box:Blk w d #[vF,vR,.slice qT t.length dT,.slice none 0 0] 40
 vFo:w.ownsRow base 60 1 vF fF.length (hdV fF pf).flatten
 vRo:w.ownsRow base 106 1 vR fR.length (hdV (fR.map rows0) pr).flatten
theorem BkIn.low (h:BkIn w base d g0 gX C qT dT t fF fR vF vR pf pr) (hm:Mod (· = gX) w w'):BkIn w' base d g0 gX C qT dT t fF fR vF vR pf pr:=
 have hl:=h.a.lo
 ⟨h.a.mod hm hl.2.2.2.2.2 (fun a ha=>(h.a.loT a ha).2.2) (fun g _ hg _ e=>by omega) (fun g _ hg _ e=>by omega),h.box.mod hm (fun e=>hl.2.2.2.2.1 e.symm),
  own_mod h.vFo hm (fun k hk e=>by have:=(own_blk_lt h.vFo hk).1; omega),own_mod h.vRo hm (fun k hk e=>by have:=(own_blk_lt h.vRo hk).1; omega)⟩
theorem BkIn.quiet (h:BkIn w base d g0 gX C qT dT t fF fR vF vR pf pr) (hm:Mod (fun _=>False) w w'):BkIn w' base d g0 gX C qT dT t fF fR vF vR pf pr:=
 h.low (hm.mono (fun _ _ h=>h.elim))
theorem own_ne28 {w:World} {b1 b2 n1 n2 k1 k2:Nat} {E1 E2:TypeId} {v1 v2:Value} {x1 x2:List Value} (h1:w.ownsRow b1 E1 n1 v1 k1 x1) (h2:w.ownsRow b2 E2 n2 v2 k2 x2) (hE:E1 ≠ E2) {g:Nat} (e2:v1.ownBlock = some g) (e1:v2.ownBlock = some g):False:=by
 rcases h1.2 with ⟨hv,_⟩ | ⟨g1,c1,u1,hv,_,hh1,_⟩
 ·rw [hv] at e2; cases e2
 ·rcases h2.2 with ⟨hv2,_⟩ | ⟨g2,c2,u2,hv2,_,hh2,_⟩
  ·rw [hv2] at e1; cases e1
  ·rw [hv] at e2
   rw [hv2] at e1
   have d1:g1 = g:=Option.some.inj e2
   have d2:g2 = g:=Option.some.inj e1
   rw [d1] at hh1
   rw [d2,hh1] at hh2
   simp only [Option.some.injEq,Obj.cells.injEq] at hh2
   exact hE hh2.2.1
theorem own_mod2 {w w':World} {b1 b2 n1 n2 k1 k2:Nat} {E1 E2:TypeId} {v1 v2:Value} {x1 x2:List Value} (h1:w.ownsRow b1 E1 n1 v1 k1 x1) (h2:w.ownsRow b2 E2 n2 v2 k2 x2) (hE:E1 ≠ E2) (hg:w.grownBy w' v1.ownBlock):w'.ownsRow b2 E2 n2 v2 k2 x2:=by
 have hm:Mod (fun g'=>v1.ownBlock = some g') w w':=(Mod.refl _ _).grown hg (fun _ h _=>h)
 exact own_mod h2 hm (fun g e1 e2=>own_ne28 h1 h2 hE e2 e1)
theorem BkIn.apart (h:BkIn w base d g0 gX C qT dT t fF fR vF vR pf pr) {gB k:Nat} {v:Value} {xs:List Value} (hO:w.ownsRow gB 59 5 v k xs) (hgB:base≤gB) (hfl:∀ c,c < fF.length→∀ a,(pf.getD c (none,0)).1 = some a→a.block < gB) (hm:Mod (fun g'=>v.ownBlock = some g') w w'):BkIn w' base d g0 gX C qT dT t fF fR vF vR pf pr:=by
 have hlt:∀ k,v.ownBlock = some k→gB≤k:=fun k hk=>(own_blk_lt hO hk).1
 have hl:=h.a.lo
 exact ⟨⟨h.a.blkC.mod hm (fun e=>by have:=hlt _ e; omega),els_modP h.a.req hm (fun a ha _ e=>by have:=hlt _ e; have:=(h.a.loT a ha).1; omega),h.a.lo,h.a.loT,
  fun c hc=>⟨els_modP (h.a.flt c hc).1 hm (fun a ha _ e=>by have:=hlt _ e; have:=hfl c hc a ha; omega),fun a ha=>by
   obtain ⟨hb,C,hB⟩:=(h.a.flt c hc).2 a ha
   exact ⟨hb,C,hB.mod hm (fun e=>by have:=hlt _ e; have:=hfl c hc a ha; omega)⟩⟩,
  fun c hc=>by
   obtain ⟨g,e,hg,hB⟩:=h.a.rws c hc
   exact ⟨g,e,hg,hB.mod hm (fun e=>own_ne hO e hB (by decide) rfl)⟩,h.a.len⟩,
  h.box.mod hm (fun e=>by have:=hlt _ e; omega),own_mod h.vFo hm (fun g e1 e2=>own_ne28 hO h.vFo (by decide) e2 e1),own_mod h.vRo hm (fun g e1 e2=>own_ne28 hO h.vRo (by decide) e2 e1)⟩
theorem BkIn.addF {w2:World} {v':Value} (h:BkIn w base d g0 gX C qT dT t fF fR vF vR pf pr) {fl:List Ve} {q:Option Addr} {dq:Nat} (hE:Els w q 5 (fl.map veR)) (hq:∀ a,q = some a→base≤a.block∧∃ C,Blk w a.block C 59)
  (hO:w2.ownsRow base 60 1 v' (fF.length + 1) ((hdV fF pf).flatten ++ [.slice q fl.length dq])) (hg:w.grownBy w2 vF.ownBlock):
  BkIn (w2.setCell ⟨d,0,none⟩ v') base d g0 gX C qT dT t (fF ++ [fl]) fR v' vR (pf ++ [(q,dq)]) pr∧Mod (fun k=>base≤k∨k = d) w (w2.setCell ⟨d,0,none⟩ v'):=by
 have hl:=h.a.lo
 have hm:Mod (fun g'=>vF.ownBlock = some g') w w2:=(Mod.refl _ _).grown hg (fun _ h _=>h)
 have hlt:∀ k,vF.ownBlock = some k→base≤k:=fun k hk=>(own_blk_lt h.vFo hk).1
 have hA:BkA w2 base d g0 gX C qT t fF fR pf pr:=h.a.mod hm (fun e=>by have:=hlt _ e; omega) (fun a ha e=>by have:=hlt _ e; have:=(h.a.loT a ha).1; omega) (fun g C _ hB e=>own_ne h.vFo e hB (by decide) rfl) (fun g C _ hB e=>own_ne h.vFo e hB (by decide) rfl)
 have hbx:=h.box.mod hm (fun e=>by have:=hlt _ e; omega)
 have hRo:=own_mod2 h.vFo h.vRo (by decide) hg
 have hm2:Mod (· = d) w2 (w2.setCell ⟨d,0,none⟩ v'):=(Mod.refl (· = d) w2).setCell (p:=⟨d,0,none⟩) (fun _=>rfl) _
 have hE2:Els w2 q 5 (fl.map veR):=els_modP hE hm (fun a ha _ e=>by obtain ⟨hb,C,hB⟩:=hq a ha; exact own_ne h.vFo e hB (by decide) rfl)
 have hq2:∀ a,q = some a→base≤a.block∧∃ C,Blk w2 a.block C 59:=fun a ha=>by
  obtain ⟨hb,C,hB⟩:=hq a ha
  exact ⟨hb,C,hB.mod hm (fun e=>own_ne h.vFo e hB (by decide) rfl)⟩
 have hA2:=hA.mod hm2 hl.2.2.2.1 (fun a ha=>(h.a.loT a ha).2.1) (fun g _ hg _ e=>by omega) (fun g _ hg _ e=>by omega)
 have hE3:=els_modP hE2 hm2 (fun a ha _ e=>by have:=(hq2 a ha).1; omega)
 have hq3:∀ a,q = some a→base≤a.block∧∃ C,Blk (w2.setCell ⟨d,0,none⟩ v') a.block C 59:=fun a ha=>by
  obtain ⟨hb,C,hB⟩:=hq2 a ha
  exact ⟨hb,C,hB.mod hm2 (by omega)⟩
 refine ⟨⟨⟨hA2.blkC,hA2.req,hA2.lo,hA2.loT,fun c hc=>?_,hA2.rws,by rw [List.length_append,List.length_append,hA2.len.1]; rfl,hA2.len.2⟩,hbx.set 0 v',?_,own_mod hRo hm2 (fun k hk e=>by have:=(own_blk_lt hRo hk).1; omega)⟩,(hm.mono (fun k _ e=>.inl (hlt k e))).trans (hm2.mono (fun k _ e=>.inr e))⟩
 ·rw [getD_snoc28,getD_snoc28,hA2.len.1]
  by_cases h1:c < fF.length
  ·rw [if_pos h1,if_pos h1]
   exact hA2.flt c h1
  ·have h2:c = fF.length:=by rw [List.length_append,List.length_singleton] at hc; omega
   rw [if_neg h1,if_neg h1,if_pos h2,if_pos h2]
   exact ⟨hE3,hq3⟩
 ·rw [hdV_snoc fF pf h.a.len.1,List.flatten_append,List.length_append]
  exact own_mod (by simpa using hO) hm2 (fun k hk e=>by have:=(own_blk_lt hO hk).1; omega)
theorem BkIn.addR {w2:World} {v':Value} (h:BkIn w base d g0 gX C qT dT t fF fR vF vR pf pr) {fl:List Ve} {g dq:Nat} (hB:Blk w g (nil28 fl.length).toArray 82) (hgb:base≤g)
  (hO:w2.ownsRow base 106 1 v' (fR.length + 1) ((hdV (fR.map rows0) pr).flatten ++ [.slice (some ⟨g,0,none⟩) fl.length dq])) (hg:w.grownBy w2 vR.ownBlock):
  BkIn (w2.setCell ⟨d,1,none⟩ v') base d g0 gX C qT dT t fF (fR ++ [fl]) vF v' pf (pr ++ [(some ⟨g,0,none⟩,dq)])∧Mod (fun k=>base≤k∨k = d) w (w2.setCell ⟨d,1,none⟩ v'):=by
 have hl:=h.a.lo
 have hm:Mod (fun g'=>vR.ownBlock = some g') w w2:=(Mod.refl _ _).grown hg (fun _ h _=>h)
 have hlt:∀ k,vR.ownBlock = some k→base≤k:=fun k hk=>(own_blk_lt h.vRo hk).1
 have hA:BkA w2 base d g0 gX C qT t fF fR pf pr:=h.a.mod hm (fun e=>by have:=hlt _ e; omega) (fun a ha e=>by have:=hlt _ e; have:=(h.a.loT a ha).1; omega) (fun g C _ hB e=>own_ne h.vRo e hB (by decide) rfl) (fun g C _ hB e=>own_ne h.vRo e hB (by decide) rfl)
 have hbx:=h.box.mod hm (fun e=>by have:=hlt _ e; omega)
 have hFo:=own_mod2 h.vRo h.vFo (by decide) hg
 have hm2:Mod (· = d) w2 (w2.setCell ⟨d,1,none⟩ v'):=(Mod.refl (· = d) w2).setCell (p:=⟨d,1,none⟩) (fun _=>rfl) _
 have hA2:=hA.mod hm2 hl.2.2.2.1 (fun a ha=>(h.a.loT a ha).2.1) (fun g _ hg _ e=>by omega) (fun g _ hg _ e=>by omega)
 have hB2:=(hB.mod hm (fun e=>own_ne h.vRo e hB (by decide) rfl)).mod hm2 (by omega)
 refine ⟨⟨⟨hA2.blkC,hA2.req,hA2.lo,hA2.loT,hA2.flt,fun c hc=>?_,hA2.len.1,by rw [List.length_append,List.length_append,hA2.len.2]; rfl⟩,hbx.set 1 v',own_mod hFo hm2 (fun k hk e=>by have:=(own_blk_lt hFo hk).1; omega),?_⟩,(hm.mono (fun k _ e=>.inl (hlt k e))).trans (hm2.mono (fun k _ e=>.inr e))⟩
 ·rw [getD_snoc28,getD_snoc28,hA2.len.2]
  by_cases h1:c < fR.length
  ·rw [if_pos h1,if_pos h1]
   exact hA2.rws c h1
  ·have h2:c = fR.length:=by rw [List.length_append,List.length_singleton] at hc; omega
   rw [if_neg h1,if_neg h1,if_pos h2,if_pos h2]
   exact ⟨g,rfl,hgb,hB2⟩
 ·have e:hdV ((fR ++ [fl]).map rows0) (pr ++ [(some ⟨g,0,none⟩,dq)]) = hdV (fR.map rows0) pr ++ [[.slice (some ⟨g,0,none⟩) fl.length dq]]:=by
   rw [List.map_append,List.map_cons,List.map_nil,hdV_snoc _ _ (by rw [List.length_map]; exact h.a.len.2)]
   simp [rows0]
  rw [e,List.flatten_append,List.length_append]
  exact own_mod (by simpa using hO) hm2 (fun k hk e=>by have:=(own_blk_lt hO hk).1; omega)
theorem BkIn.deal {B0:Nat} {fls:List (List Ve)} (h:BkIn w base d g0 gX C qT dT t fls fls vF vR pf pr) (hn:1≤fls.length∧fls.length≤4) (hB:B0≤base) (hd:B0≤d∧∀ a,qT = some a→B0≤a.block):
  ∃ gR F qF cF cR qss,RdIn w F d gR fls (fls.map rows0) t qF cF pf cR pr qss qT dT (.slice none 0 0)∧(∀ k,F k→B0≤k)∧TyF w F base∧base≤gR:=by
 obtain ⟨qF,kF,cF,rfl⟩:=own_isS h.vFo
 obtain rfl:fls.length = kF:=by have:=own_lenC h.vFo; omega
 obtain ⟨qR,kR,cR,rfl⟩:=own_isS h.vRo
 obtain rfl:fls.length = kR:=by have:=own_lenC h.vRo; omega
 have hl:=h.a.lo
 rcases h.vRo.2 with ⟨hv,h0⟩ | ⟨gR,cap,cur,hv,hgR,hhR,_⟩
 ·omega
 ·cases hv
  have hBR:Blk w gR cur 106:=hhR
  obtain ⟨f1,_,_,f4⟩:=own_els (R:=hdV fls pf) (hdV_len _ _) (by rw [hdV_size]; exact h.vFo) (by rw [hdV_size]; omega)
  obtain ⟨r1,_,_,_⟩:=own_els (R:=hdV (fls.map rows0) pr) (hdV_len _ _) (by rw [hdV_size,List.length_map]; exact h.vRo) (by rw [hdV_size,List.length_map]; omega)
  have hrow:∀ c,c < fls.length→(fls.map rows0).getD c [] = rows0 (fls.getD c []):=fun c hc=>by
   rw [List.getD_eq_getElem?_getD,List.getElem?_map,List.getD_eq_getElem?_getD,List.getElem?_eq_getElem hc]
   rfl
  have hqs:∀ c,c < fls.length→(fls.map qs0).getD c [] = qs0 (fls.getD c []):=fun c hc=>by
   rw [List.getD_eq_getElem?_getD,List.getElem?_map,List.getD_eq_getElem?_getD,List.getElem?_eq_getElem hc]
   rfl
  have hr0:∀ fl:List Ve,(rows0 fl).length = fl.length:=fun fl=>by simp [rows0]
  refine ⟨gR,fun k=>(B0≤k∧k < w.heap.size∧k ≠ gR∧k ≠ d)∧(k < base∨∃ C T,Blk w k C T∧T ≠ 3),qF,cF,cR,fls.map qs0,⟨h.box,f1,fun c hc=>(h.a.flt c hc).1,h.a.req,⟨cur,hBR⟩,r1,fun c hc=>?_,⟨fun e=>e.1.2.2.2 rfl,by omega,h.box.lt⟩,fun a ha _=>?_,fun c hc a ha _=>?_,fun a ha h0=>?_,fun c hc a ha _=>?_,fun c hc i a ha h0=>?_,fun e=>e.1.2.2.1 rfl,⟨fun k hk=>hk.1.2.1,hBR.lt⟩,by simp,⟨h.a.len.2,by simp⟩⟩,fun k hk=>hk.1.1,fun k hk=>hk.2,hgR⟩
  ·rw [hrow c hc,hqs c hc]
   obtain ⟨g,e,hg,hB⟩:=h.a.rws c hc
   rw [e]
   refine ⟨?_,fun i _=>?_,fun i _=>?_⟩
   ·refine els_litP (E:=82) (n:=1) ?_ (rsV_len _ _ _) (by
     rw [rsV_size,hr0]
     have:=(h.a.flt c hc).1.big
     rwa [List.length_map] at this)
    rw [show (rsV (rows0 (fls.getD c [])) (qs0 (fls.getD c [])) (rows0 (fls.getD c [])).length).flatten = nil28 (fls.getD c []).length from by
     unfold rsV nil28
     rw [hr0]
     generalize fls.getD c [] = fl
     have:∀ n:Nat,((List.range n).map fun i=>[Value.slice ((qs0 fl).getD i (none,0)).1 ((rows0 fl).getD i []).length ((qs0 fl).getD i (none,0)).2]).flatten = List.replicate n (.slice none 0 0):=fun n=>by
      induction n with
      | zero=>rfl
      | succ n ih=>
       rw [List.range_succ,List.map_append,List.flatten_append,ih,List.replicate_succ']
       simp only [List.map_cons,List.map_nil]
       rw [qs0_at,rows0_at]
       rfl
     exact this _]
    exact hB
   ·rw [rows0_at,qs0_at]
    exact els_nilP _ _ _
   ·rw [rows0_at,qs0_at]
    exact ⟨Nat.le_refl _,by show 0≤9223372036854775807; omega⟩
  ·obtain ⟨b1,b2,_⟩:=f4 a ha
   obtain ⟨C2,hB2⟩:=own_blkB h.vFo ha
   exact ⟨⟨by omega,b2,blk_neD hB2 hBR (by decide),by omega⟩,.inr ⟨C2,_,hB2,by decide⟩⟩
  ·obtain ⟨b1,C2,hB2⟩:=(h.a.flt c hc).2 a ha
   exact ⟨⟨by omega,hB2.lt,blk_neD hB2 hBR (by decide),by omega⟩,.inr ⟨C2,_,hB2,by decide⟩⟩
  ·have b1:=h.a.loT a ha
   exact ⟨⟨hd.2 a ha,by have:=hBR.lt; omega,by omega,b1.2.1⟩,.inl b1.1⟩
  ·obtain ⟨g,e,hg,hB⟩:=h.a.rws c hc
   rw [e] at ha
   cases ha
   exact ⟨⟨by show B0≤g; omega,hB.lt,blk_neD hB hBR (by decide),by show g ≠ d; omega⟩,.inr ⟨_,_,hB,by decide⟩⟩
  ·rw [hrow c hc,rows0_at] at h0
   exact absurd rfl h0
end
end
end
end Go.Proofs.YtkaoflndbcfodaaGreat
