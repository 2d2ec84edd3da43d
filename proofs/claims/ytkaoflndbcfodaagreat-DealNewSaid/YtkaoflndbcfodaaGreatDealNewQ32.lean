/-
  The row 'DealNew': a pack of the texts Dwt28 Dbk28 St28 Np28 Az28, pruned to what the row uses.
-/
import Derived.Test.YtkaoflndbcfodaaGreatDealNewQ31
namespace Go.Proofs.YtkaoflndbcfodaaGreat
set_option maxHeartbeats 8000000
set_option maxRecDepth 100000
section
open Go.RowKit
theorem BoR.holds {w:World} {B0:Nat} {t:List Rq} {gB:Nat} {CB:Array Value} {L:List Pc} {d gP cP:Nat} {qK:Option Addr} {cK dd gR:Nat} {F:Nat→Prop} {fls:List (List Ve)} {Rs:List (List Rou2)} {H:List Int} {qF:Option Addr} {cF:Nat} {pf:List (Option Addr × Nat)} {cR:Nat} {pr:List (Option Addr × Nat)} {qss:List (List (Option Addr × Nat))} {qT:Option Addr} {cT:Nat} {qH:Option Addr} {cH:Nat}
  (h:BoR w B0 t gB CB L d gP cP qK cK dd gR F fls Rs H qF cF pf cR pr qss qT cT qH cH):HoldsR (rwsL L) H∧∀ r,r < H.length→0≤H.getD r 0∧H.getD r 0 < (L.length:Int):=by
 have h1:=rsH_holds h.ok.new (by rw [h.ok.tl]; exact h.ok.hl) h.ok.ok
 have h2:HoldsR (rwsL L) H:=holdsR_of (by rw [rsH_len]; unfold rwsL; rw [List.length_map]; exact h.len.symm) (fun c=>by
  rw [rwsL_at,← h.ok.rs]
  by_cases hc:c < fls.length
  ·exact (h.eq c hc).2.1.symm
  ·rw [h.ok.rs,List.getD_eq_getElem?_getD,List.getElem?_eq_none (by rw [rsH_len]; omega),List.getD_eq_getElem?_getD,List.getElem?_eq_none (by rw [h.len]; omega)]
   rfl) h1
 exact ⟨h2,fun r hr=>by have:=(h2 r hr).1; unfold rwsL at this; rw [List.length_map] at this; exact this⟩
end
section
section
open Go.RowKit
theorem blk_ne28 {w:World} {g:Nat} {C1 C2:Array Value} {T1 T2:TypeId} (h1:Blk w g C1 T1) (h2:Blk w g C2 T2) (hT:T1 ≠ T2):False:=by
 have e1:w.heap[g]? = some (.cells C1 T1 (0,0)):=h1
 have e2:w.heap[g]? = some (.cells C2 T2 (0,0)):=h2
 rw [e1] at e2
 cases e2
 exact hT rfl
end
end
section
section
open Go.RowKit
def ptrB (b:Nat):List Value:=[.pointer (some ⟨b,0,none⟩)]
structure St28 (w0:World) (B:Nat) (t:List Rq) (fls:List (List Ve)) (bs:List Nat) (d gP cP:Nat) (qK:Option Addr) (cK gB Hn:Nat) (i:Nat) (L:List Pc) (H:List Int) (w:World):Prop where
 pcs:PcsAt B w t L
 dl:DlIn w d L H gP cP qK cK
 hol:HoldsR (rwsL L) H
 len:L.length = fls.length
 hl:H.length = Hn
 eq:∀ c,c < fls.length→(L.getD c pc0).b = bs.getD c 0∧(L.getD c pc0).fl = fls.getD c []∧(L.getD c pc0).N≤8 + i
 pls:Els w (some ⟨gB,0,none⟩) 1 (bs.map ptrB)
 bl:bs.length = fls.length
 gl:gB < w.heap.size∧B≤w.heap.size∧w0.heap.size≤B
 nB:∀ p ∈ L,¬ p.F gB
 kB:∀ a,qK = some a→H ≠ []→B≤a.block∧a.block ≠ gB
 lo:Below w0.heap.size w0 w
def Und28 (n:Nat) (L:List Pc) (qK:Option Addr) (H:List Int):Prop:=(∀ p ∈ L,∀ k,p.F k→k < n)∧∀ a,qK = some a→H ≠ []→a.block < n
section
variable {w0 w w':World} {B:Nat} {t:List Rq} {fls:List (List Ve)} {bs:List Nat} {d gP cP:Nat} {qK:Option Addr} {cK gB Hn i:Nat} {L:List Pc} {H:List Int}
theorem St28.below (h:St28 w0 B t fls bs d gP cP qK cK gB Hn i L H w) (hb:Below w.heap.size w w'):St28 w0 B t fls bs d gP cP qK cK gB Hn i L H w':=
 ⟨h.pcs.below hb,h.dl.below hb,h.hol,h.len,h.hl,h.eq,h.pls.below hb,h.bl,⟨by have:=hb.size; have:=h.gl.1; omega,by have:=hb.size; have:=h.gl.2.1; omega,h.gl.2.2⟩,h.nB,h.kB,h.lo.trans (hb.mono h.lo.size)⟩
theorem St28.und (h:St28 w0 B t fls bs d gP cP qK cK gB Hn i L H w):Und28 w.heap.size L qK H:=
 ⟨fun p hp k hk=>(h.pcs.at_ p hp).own.2.2.2 k hk,fun a ha hH=>by
  obtain ⟨g,C,e,hB⟩:=h.dl.hb hH
  rw [e] at ha
  cases ha
  exact hB.lt⟩
theorem St28.mem (h:St28 w0 B t fls bs d gP cP qK cK gB Hn i L H w) {c:Nat} (hc:c < fls.length):c < L.length:=by rw [h.len]; exact hc
theorem St28.cell (h:St28 w0 B t fls bs d gP cP qK cK gB Hn i L H w) {c:Nat} (hc:c < fls.length):(loadVar 42 ((⟨gB,0,none⟩:Addr).add c)).run Tryz.prog w = .ok (.pointer (some ⟨bs.getD c 0,0,none⟩)) w:=by
 have hc2:c < bs.length:=by rw [h.bl]; exact hc
 have:=h.pls.cells ⟨gB,0,none⟩ rfl c (ptrB (bs.getD c 0)) 0 (.pointer (some ⟨bs.getD c 0,0,none⟩)) (by rw [List.getElem?_map,List.getElem?_eq_getElem hc2,List.getD_eq_getElem?_getD,List.getElem?_eq_getElem hc2]; rfl) rfl
 exact run_cellPl (by simpa using this)
theorem St28.fine (h:St28 w0 B t fls bs d gP cP qK cK gB Hn i L H w) {r:Nat} (hr:r < Hn):∃ f:Nat,f < fls.length∧H.getD r 0 = (f:Int):=by
 obtain ⟨h1,h2⟩:=(h.hol r (by rw [h.hl]; exact hr)).1
 have h3:(rwsL L).length = fls.length:=by unfold rwsL; rw [List.length_map,h.len]
 rw [h3] at h2
 exact ⟨(H.getD r 0).toNat,by omega,by omega⟩
end
end
end
section
open Go.RowKit
theorem holdKR_stop (Rs:List (List Rou2)) (t:List Rq) (H:List Int) {r:Nat} (h0:holdKR Rs t H r = 0) (h1:holdER Rs t H r ≠ 0):∀ m,r < m→holdKR Rs t H m = holdER Rs t H r
 | m + 1,h=>by
  by_cases e:r = m
  ·subst e
   show (if holdKR Rs t H r ≠ 0 then _ else _) = _
   rw [if_neg (fun h=>h h0)]
  ·have:=holdKR_stop Rs t H h0 h1 m (by omega)
   show (if holdKR Rs t H m ≠ 0 then holdKR Rs t H m else _) = _
   rw [if_pos (by rw [this]; exact h1),this]
theorem holdKR_congr {Rs:List (List Rou2)} {t:List Rq} {H H':List Int}:∀ k,(∀ r,r < k→H.getD r 0 = H'.getD r 0)→holdKR Rs t H k = holdKR Rs t H' k
 | 0,_=>rfl
 | k + 1,h=>by
  show (if holdKR Rs t H k ≠ 0 then holdKR Rs t H k else holdER Rs t H k) = if holdKR Rs t H' k ≠ 0 then holdKR Rs t H' k else holdER Rs t H' k
  rw [holdKR_congr k (fun r hr=>h r (by omega)),show holdER Rs t H k = holdER Rs t H' k from by unfold holdER; rw [h k (by omega)]]
theorem hold_odd {Rs:List (List Rou2)} {t:List Rq} {H:List Int} (h:HoldsR Rs H) {k:Nat} (hk:k < H.length) {N:Int} (hN:H.getD k 0 ≠ N):holdKR Rs t (H.set k N) (H.set k N).length = 12:=by
 have hg:(H.set k N).getD k 0 = N:=by rw [getD_setS,if_pos ⟨rfl,hk⟩]
 have h0:holdKR Rs t (H.set k N) k = 0:=by
  rw [holdKR_congr (H':=H) k (fun r hr=>by rw [getD_setS,if_neg (by omega)])]
  exact hold_zero h k (by omega)
 have h1:holdER Rs t (H.set k N) k = 12:=by
  unfold holdER
  rw [hg,if_pos]
  by_cases hr:0≤N∧N < (Rs.length:Int)
  ·right
   refine decide_eq_false fun hw=>hN ?_
   have:=((h k hk).2 N.toNat).1 hw
   omega
  ·exact .inl hr
 rw [holdKR_stop Rs t _ h0 (by rw [h1]; decide) _ (by rw [List.length_set]; exact hk),h1]
theorem allQ_one {rows:List Rou2} {t:List Rq} {r:Nat} (hr:r < t.length) (h:0≤whereP rows (r:Int)):(allQ rows t).count (r:Int) = 1:=by
 unfold allQ
 rw [List.count_filter (by simpa using h),range_cnt,if_pos hr]
theorem cntR_ge {Rs:List (List Rou2)} {t:List Rq} {r c:Nat} (hr:r < t.length) (hc:0≤whereP (Rs.getD c []) (r:Int)):∀ k,(if c < k then 1 else 0)≤(cntR Rs t k (r:Int)).getD 0
 | 0=>by simp [cntR]
 | k + 1=>by
  have ih:=cntR_ge hr hc k
  show _≤(((allQ (Rs.getD k []) t).foldl updM (cntR Rs t k)) (r:Int)).getD 0
  rw [foldl_cnt]
  by_cases e:k = c
  ·subst e
   rw [allQ_one hr hc,if_pos (by omega)]
   split at ih <;> omega
  ·split at ih
   ·rw [if_pos (by omega)]; omega
   ·rw [if_neg (by omega)]; omega
theorem cntR_two {Rs:List (List Rou2)} {t:List Rq} {r c f:Nat} (hr:r < t.length) (hc:0≤whereP (Rs.getD c []) (r:Int)) (hf:0≤whereP (Rs.getD f []) (r:Int)) (hcf:c < f):∀ k,f < k→2≤(cntR Rs t k (r:Int)).getD 0
 | k + 1,hk=>by
  show _≤(((allQ (Rs.getD k []) t).foldl updM (cntR Rs t k)) (r:Int)).getD 0
  rw [foldl_cnt]
  by_cases e:k = f
  ·subst e
   have h1:=cntR_ge (Rs:=Rs) hr hc k
   rw [if_pos hcf] at h1
   rw [allQ_one hr hf]
   omega
  ·have:=cntR_two hr hc hf hcf k (by omega)
   omega
theorem hold_two {Rs:List (List Rou2)} {t:List Rq} {H:List Int} (h0:0 < H.length) (ht:0 < t.length) {f o:Nat} (hf:H.getD 0 0 = (f:Int)) (hfo:f ≠ o) (hfl:f < Rs.length) (hol:o < Rs.length) (h1:0≤whereP (Rs.getD f []) 0) (h2:0≤whereP (Rs.getD o []) 0):holdKR Rs t H H.length = 13:=by
 have hE:holdER Rs t H 0 = 13:=by
  unfold holdER
  rw [hf,Int.toNat_natCast,if_neg (by
   rintro (h3 | h3)
   ·exact h3 ⟨by omega,by omega⟩
   ·have h4:decide (0≤whereP (Rs.getD f []) ((0:Nat):Int)) = true:=decide_eq_true h1
    rw [h4] at h3
    cases h3),if_pos]
  have:2≤(cntR Rs t Rs.length ((0:Nat):Int)).getD 0:=by
   rcases Nat.lt_or_ge f o with h | h
   ·exact cntR_two ht h1 h2 h _ hol
   ·exact cntR_two ht h2 h1 (by omega) _ hfl
  omega
 rw [holdKR_stop Rs t H (r:=0) rfl (by rw [hE]; decide) _ h0,hE]
theorem dlC_nilC {Q:List (Option Pc)} {t:List Rq} {H:List Int} (hQ:1≤Q.length∧Q.length≤8) (hH:H.length≤64) {c:Nat} (hc:c < Q.length):dlC (Q.set c none) t H = 1:=by
 unfold dlC
 rw [List.length_set,if_neg (by omega),if_pos]
 rw [List.any_eq_true]
 refine ⟨c,List.mem_range.2 hc,decide_eq_true ?_⟩
 rw [getD_setS,if_pos ⟨rfl,hc⟩]
 rfl
theorem dlC_twice {L:List Pc} {t:List Rq} {H:List Int} (hL:1≤L.length∧L.length≤7) (hH:H.length≤64) {c:Nat} (hc:c < L.length):dlC (L.map some ++ [some (L.getD c pc0)]) t H = 13:=by
 have hlen:(L.map some ++ [some (L.getD c pc0)]).length = L.length + 1:=by simp
 have hlow:∀ k,k < L.length→(L.map some ++ [some (L.getD c pc0)]).getD k none = some (L.getD k pc0):=fun k hk=>by
  rw [List.getD_eq_getElem?_getD,List.getElem?_append_left (by rw [List.length_map]; exact hk),← List.getD_eq_getElem?_getD,map_some_at L hk]
 have hlast:(L.map some ++ [some (L.getD c pc0)]).getD L.length none = some (L.getD c pc0):=by
  rw [List.getD_eq_getElem?_getD,List.getElem?_append_right (by rw [List.length_map]; exact Nat.le_refl _),List.length_map,Nat.sub_self]
  rfl
 unfold dlC
 rw [hlen,if_neg (by omega),if_neg,if_pos]
 ·rw [List.any_eq_true]
  refine ⟨L.length,List.mem_range.2 (by omega),?_⟩
  unfold twiceAt
  rw [List.any_eq_true]
  refine ⟨c,List.mem_range.2 (by rw [hlen]; omega),?_⟩
  rw [hlow c hc,hlast]
  simp
  omega
 ·rw [Bool.not_eq_true,List.any_eq_false]
  intro k hk
  rw [List.mem_range] at hk
  by_cases e:k < L.length
  ·rw [hlow k e]
   simp [ptrA]
  ·rw [show k = L.length by omega,hlast]
   simp [ptrA]
theorem dlC_65 {Q:List (Option Pc)} {t:List Rq} {H:List Int} (h:Q.length < 1∨64 < H.length):dlC Q t H = 11:=if_pos (by omega)
theorem St28.code {w0 w:World} {B:Nat} {t:List Rq} {fls:List (List Ve)} {bs:List Nat} {d gP cP:Nat} {qK:Option Addr} {cK gB Hn i:Nat} {L:List Pc} {H:List Int} (h:St28 w0 B t fls bs d gP cP qK cK gB Hn i L H w) (H':List Int) (hl:H'.length = H.length):dlC (L.map some) t H' = holdKR (rwsL L) t H' H'.length:=
 dlC_many h.dl.many.1 (by rw [hl]; exact h.dl.many.2) (fun i j hi hj hij=>h.pcs.ne hi hj hij)
end
section
open Go.RowKit
theorem run_appZ {w:World} (ty:TypeId) (base:Nat) (hbase:base≤w.heap.size) (v:Value) (n:Nat) (xs:List Value) (hown:w.ownsRow base 3 1 v n xs) (hn:n≤1000):
  ∃ v' w',(Builtin.append_ #[35,3] ty #[v,.int .i64 65]).run Tryz.prog w = .ok v' w'∧w'.ownsRow base 3 1 v' (n + 65) (xs ++ List.replicate 65 (.int .i64 0))∧w.grownBy w' v.ownBlock:=by
 have ht:Tryz.prog.underlying 35 = some (.slice 3):=Tryz.underlying35
 have hu:Tryz.prog.underlying 3 = some (.int .i64):=Tryz.underlying3
 obtain ⟨i,hi,hs,hb,hz⟩:∃ i,Tryz.prog.info? 3 = some i∧i.size = 1∧i.bytes = 8∧i.zero = some (.int .i64 0):=by
  have e1:(Tryz.prog.info? 3).map (·.size) = some 1:=by kernel_rfl
  have e2:(Tryz.prog.info? 3).map (·.bytes) = some 8:=by kernel_rfl
  have e3:(Tryz.prog.info? 3).bind (·.zero) = some (.int .i64 0):=by kernel_rfl
  cases h:Tryz.prog.info? 3 with
  | none=>rw [h] at e1; cases e1
  | some i=>
   rw [h] at e1 e2 e3
   simp only [Option.map_some,Option.some.injEq,Option.bind_some] at e1 e2 e3
   exact ⟨i,rfl,e1,e2,e3⟩
 have hzc0:Builtin.zeroCells (Value.int .i64 0).cells 65 = (List.replicate 65 (Value.int .i64 0)).toArray:=by kernel_rfl
 have hone0:∀ u ∈ List.replicate 65 (Value.int .i64 0),u.oneCell' = true:=by
  intro u hu
  rw [List.eq_of_mem_replicate hu]
  rfl
 have hZl0:(List.replicate 65 (Value.int .i64 0)).length = 65:=List.length_replicate
 obtain ⟨Z,hZ⟩:∃ Z,List.replicate 65 (Value.int .i64 0) = Z:=⟨_,rfl⟩
 rw [hZ] at hzc0 hone0 hZl0
 have hzc:=hzc0
 have hone:=hone0
 have hZl:=hZl0
 clear hzc0 hone0 hZl0
 have hZg:List.replicate 65 (.int .i64 0) = Z:=hZ
 rw [hZg]
 clear hZg hZ
 have hlen:(xs ++ Z).length = (n + 65) * 1:=by rw [List.length_append,hown.1,hZl]; omega
 have hw65:IntKind.i64.wrap 65 = 65:=by decide
 have grown:∀ (old:Nat),old < n + 65→∀ (row:Option Nat),
   (w.drew.alloc (.cells (xs.toArray ++ Z.toArray ++ Builtin.zeroCells (Value.int .i64 0).cells (grownCap w (n + 65) old 3 - (n + 65))) 3)).ownsRow base 3 1
     (.slice (some ⟨w.heap.size,0,none⟩) (n + 65) (grownCap w (n + 65) old 3)) (n + 65) (xs ++ Z)∧
   w.grownBy (w.drew.alloc (.cells (xs.toArray ++ Z.toArray ++ Builtin.zeroCells (Value.int .i64 0).cells (grownCap w (n + 65) old 3 - (n + 65))) 3)) row:=by
  intro old ho row
  have hge:=grownCap_ge w (n + 65) old 3
  have hcm:grownCap w (n + 65) old 3≤maxLen:=grownCap_le_maxLen w (n + 65) old 3 (by unfold maxLen; omega)
  refine ⟨⟨hlen,.inr ⟨w.heap.size,_,_,rfl,hbase,heap_alloc_new w.drew _,hge,hcm,?_,?_⟩⟩,⟨rfl,rfl,rfl,by simp,fun k hk _=>heap_alloc_old w.drew _ hk⟩⟩
  ·have h1:=hown.1
   have h2:(Value.int .i64 0).cells.size = 1:=rfl
   simp only [Array.size_append,List.size_toArray,size_zeroCells,h2,h1,hZl]
   omega
  ·simp only [Array.toList_append,List.append_assoc]
   rw [← List.append_assoc,← hlen]
   exact List.take_left
 have nf:∀ old,old < n + 65→¬ (281474976710656 < Builtin.nextslicecap (n + 65) old * 8):=fun old ho=>by
  have:=growslice_fits (need:=n + 65) (old:=old) (bytes:=8) ho (by omega)
  omega
 rcases hown.2 with ⟨rfl,rfl⟩ | ⟨g,cap,cur,rfl,hbg,hg,hnc,hcm,hcs,htake⟩
 ·have hx:xs = []:=List.eq_nil_of_length_eq_zero (by simpa using hown.1)
  subst hx
  have hgr:=grown 0 (by omega) (Value.ownBlock (.slice none 0 0))
  have h48:=nf 0 (by omega)
  refine ⟨_,_,?_,hgr.1,hgr.2⟩
  simp only [Nat.zero_add] at h48
  simp [Builtin.append_,run_underlying ht,run_underlying hu,sizeOf,typeInfo,zeroValue,asInt,asIntOf,hi,hs,hb,hz,hw65,hzc,h48,Question.forced,run_firstCells_none,newRow,grownCap]
  intro h9
  exact absurd h9 (by decide)
 ·by_cases hroom:n + 65≤cap
  ·have hfit:n * 1 + Z.length≤cur.size:=by rw [hZl,hcs]; omega
   have hst:=run_storeCells_at Tryz.prog g (n * 1) 3 Z 0 cur w hg (by simpa using hfit) hone
   simp only [Nat.add_zero,Nat.mul_one] at hst
   refine ⟨.slice (some ⟨g,0,none⟩) (n + 65) cap,w.setRow g (cur.toList.take (n * 1) ++ Z ++ cur.toList.drop (n * 1 + Z.length)).toArray,?_,⟨hlen,.inr ⟨g,cap,_,rfl,hbg,setRow_heap w g cur _ 3 _ hg,hroom,hcm,?_,?_⟩⟩,⟨rfl,rfl,rfl,by simp,fun k _ hk=>setRow_other w g k _ (fun e=>hk (by simp [Value.ownBlock,e]))⟩⟩
   ·simp only [Nat.mul_one]
    simp [Builtin.append_,run_underlying ht,run_underlying hu,sizeOf,typeInfo,zeroValue,asInt,asIntOf,hi,hs,hb,hz,hw65,hzc,hroom,Addr.add_lit,hst]
   ·simp only [List.size_toArray,List.length_append,List.length_take,List.length_drop,Array.length_toList]
    omega
   ·rw [htake,← hlen]
    exact List.take_left
  ·have holds:∀ j u,xs[j]? = some u→w.cell? ((⟨g,0,none⟩:Addr).add j) = some u:=hown.cells (g:=g) rfl
   have hgr:=grown cap (by omega) (Value.ownBlock (.slice (some ⟨g,0,none⟩) n cap))
   have h48:=nf cap (by omega)
   have hfo:=run_firstCells_some (P:=Tryz.prog) w.drew 1 n ⟨g,0,none⟩ n cap xs hown.1 (by simpa using holds)
   have h63:¬ (9223372036854775807 < ((n:Int) + max 65 0)):=by omega
   refine ⟨_,_,?_,hgr.1,hgr.2⟩
   simp [Builtin.append_,run_underlying ht,run_underlying hu,sizeOf,typeInfo,zeroValue,asInt,asIntOf,hi,hs,hb,hz,hw65,hzc,hroom,h48,h63,Question.forced,hfo,newRow,grownCap]
   congr 2
   apply Array.ext'
   simp [List.append_assoc]
theorem wpList_appZ {ops:Array Oper} {rest:List Oper} {o:Oper} {a:Act} {w:World} {Q:Exit→Act→World→Prop} (hgd:o.guard = none) (x:Operand) (ho:o.op = .call { callee:=.builtin .append,args:=#[x,.const (.int .i64 65)],argTypes:=#[35,3] })
  (base:Nat) (hbase:base≤w.heap.size) (v:Value) (n:Nat) (xs:List Value) (hx:a.eval x = v) (hown:w.ownsRow base 3 1 v n xs) (hn:n≤1000)
  (h:∀ v' w',w'.ownsRow base 3 1 v' (n + 65) (xs ++ List.replicate 65 (.int .i64 0))→w.grownBy w' v.ownBlock→wpList Tryz.prog ops Q rest (a.put o.dst v') w'):wpList Tryz.prog ops Q (o :: rest) a w:=
 wpList_plain hgd fun _ hK=>by
  obtain ⟨v',w',h2,h3,h4⟩:=run_appZ o.type base hbase v n xs hown hn
  have hc:a.eval (.const (.int .i64 65)) = .int .i64 65:=rfl
  unfold Oper.wp execOp
  simp only [ho,resolve,invoke,builtin,Sem.run_bind,Sem.run_pure,Result.andThen_ok,List.map_toArray,List.map_cons,List.map_nil,hx,hc,h2]
  exact hK _ _ (h v' w' h3 h4)
end
end Go.Proofs.YtkaoflndbcfodaaGreat
