/-
  The row 'DealNew': a pack of the texts Ph Ps, pruned to what the row uses.
-/
import Derived.Test.YtkaoflndbcfodaaGreatDealNewQ20
namespace Go.Proofs.YtkaoflndbcfodaaGreat
set_option maxHeartbeats 8000000
set_option maxRecDepth 100000
section
open Go.RowKit
attribute [local go_sem] Oper.semAt_some
theorem allQ_mem {rows:List Rou2} {t:List Rq} {r:Int}:r ∈ allQ rows t↔(0≤r∧r < t.length)∧0≤whereP rows r:=by
 unfold allQ
 rw [List.mem_filter,List.mem_map]
 constructor
 ·rintro ⟨⟨i,hi,rfl⟩,h⟩
  have:=List.mem_range.1 hi
  exact ⟨by omega,of_decide_eq_true h⟩
 ·rintro ⟨⟨h0,h1⟩,h⟩
  exact ⟨⟨r.toNat,List.mem_range.2 (by omega),by omega⟩,decide_eq_true h⟩
theorem allQ_sorted (rows:List Rou2) (t:List Rq):(allQ rows t).Pairwise (· < ·):=by
 unfold allQ
 refine List.Pairwise.filter _ ?_
 refine List.pairwise_map.2 ?_
 exact List.pairwise_lt_range.imp (fun h=>by omega)
theorem allQ_len (rows:List Rou2) (t:List Rq):(allQ rows t).length≤t.length:=by
 unfold allQ
 have:=List.length_filter_le (fun r=>decide (0≤whereP rows r)) ((List.range t.length).map fun i:Nat=>(i:Int))
 simpa using this
theorem where_rg {fl:List Ve} {rows:List Rou2} {t:List Rq} (hP:PlnOk fl rows t) {r:Int} (h:0≤whereP rows r):0≤r∧r < t.length:=by
 obtain ⟨k,hk,e,s,hs,rfl⟩:=where_some h
 have hR:=hP.right k (by rw [← hP.len]; exact hk)
 have hs':s ∈ rows.getD k []:=by rw [List.getD_eq_getElem?_getD,List.getElem?_eq_getElem hk]; exact hs
 exact ⟨(rou_mem hR.2.2.2.1 hs').1,hR.2.2.2.2.1 s hs'⟩
theorem all_sort {fl:List Ve} {rows:List Rou2} {t:List Rq} (hP:PlnOk fl rows t) {ks:List Int} (hnd:ks.Nodup) (hm:∀ r,r ∈ ks↔(whM rows r).isSome = true):ks.length = (allQ rows t).length∧ks.mergeSort (fun x y=>decide (x≤y)) = allQ rows t:=by
 have hs:=allQ_sorted rows t
 have hnd2:(allQ rows t).Nodup:=hs.imp (fun h=>by omega)
 have hp:ks.Perm (allQ rows t):=(List.perm_ext_iff_of_nodup hnd hnd2).2 fun r=>by
  rw [hm,allQ_mem]
  by_cases h:0≤whereP rows r
  ·rw [whM_some h]
   simp only [Option.isSome_some,true_iff]
   exact ⟨where_rg hP h,h⟩
  ·rw [whM_none (by omega)]
   simp only [Option.isSome_none,Bool.false_eq_true,false_iff]
   exact fun x=>h x.2
 have tr:∀ a b c:Int,decide (a≤b) = true→decide (b≤c) = true→decide (a≤c) = true:=fun a b c h1 h2=>by simp only [decide_eq_true_eq] at *; omega
 have tot:∀ a b:Int,(decide (a≤b) || decide (b≤a)) = true:=fun a b=>by simp only [Bool.or_eq_true,decide_eq_true_eq]; omega
 refine ⟨hp.length_eq,List.Perm.eq_of_pairwise (le:=fun a b=>decide (a≤b) = true) (fun a b _ _ h1 h2=>?_) (List.pairwise_mergeSort tr tot ks) (hs.imp (fun h=>by simp only [decide_eq_true_eq]; omega)) ((List.mergeSort_perm ks _).trans hp)⟩
 simp only [decide_eq_true_eq] at h1 h2
 omega
def AqPost (w:World) (R:List Int) (e:Ending) (w':World):Prop:=
 (∃ q d,e = .returned (.slice q R.length d)∧R.length≤d∧Els w' q 1 (R.map inV)∧(R ≠ []→∃ g C,q = some ⟨g,0,none⟩∧w.heap.size≤g∧Blk w' g C 3))∧Below w.heap.size w w'
theorem pall_calls {w:World} {F:Nat→Prop} {b gT gM N:Nat} {fl:List Ve} {rows:List Rou2} {t:List Rq} (hP:PlnOk fl rows t) (ht:t.length≤1000) (h:PlanAt w F b gT gM N fl rows t) (hN:N≤100000):
  Calls Tryz.prog 32 #[.pointer (some ⟨b,0,none⟩)] w (AqPost w (allQ rows t)):=by
 have hso:=Lib.hid (fun ks hnd hm=>all_sort hP (ks:=ks) hnd hm)
 have hql:=allQ_len rows t
 obtain ⟨qT,dT,cT,qs,h⟩:=h
 have k2:=h.box.cell (i:=2) rfl
 generalize allQ rows t = Q at *
 have hcS:=Lib.hid (kySorted (W:=w.alloc (.cells #[.map (some gM)] 86)) (h.map.mod ((Mod.refl (fun _=>False) w).alloc _) (fun h=>h)) hN (g:=w.heap.size) (cellN w _ _).1)
 have hcK:=Lib.hid (kyKeys 5 (some gM) w)
 have hb1:=Lib.hid (new_below w (.cells #[.map (some gM)] 86))
 clear h hP
 refine (callsIn_wide (n:=6)).1 ?_
 refine callsIn_of_wp Tryz.func32 rfl trivial ?_ rfl
 simp only [Tryz.ntmps32,List.size_toArray,List.length_cons,List.length_nil,Nat.reduceAdd,Nat.reduceSub,Array.replicate_succ,Array.replicate_zero,List.push_toArray,List.append_toArray,List.nil_append,List.cons_append]
 have hfK:Fence.wide.fn 54:=trivial
 have hfS:Fence.wide.fn 53:=trivial
 gi_wp2_with (first | (gi_at_call 54; refine hcK.out.mono ?_; rintro e w' ⟨rfl,rfl⟩) | (gi_at_call 53; refine hcS.out.mono ?_; rintro e w3 ⟨v,ss,rfl,⟨hnd,hmm⟩,hO,hb3⟩))
 obtain ⟨hl,he⟩:=hso.out ss hnd hmm
 rw [he,hl] at hO
 have hb4:=hb1.out.trans (hb3.mono hb1.out.size)
 obtain ⟨q4,n4,d4,rfl⟩:=own_isS hO
 obtain ⟨h1,h2,h3,_⟩:=own_els (R:=Q.map inV) (fun x hx=>by obtain ⟨z,_,rfl⟩:=List.mem_map.1 hx; rfl) (by rw [List.length_map,show (Q.map inV).flatten = Q.map (Value.int .i64) from inV_map Q]; exact hO) (by rw [List.length_map]; omega)
 rw [List.length_map] at h2
 subst h2
 have hbs:=hb1.out.size
 have hown:Q ≠ []→∃ g C,q4 = some ⟨g,0,none⟩∧w.heap.size≤g∧Blk w3 g C 3:=fun h0=>by
  obtain ⟨g,C,e1,e2,e3,_⟩:=ownS_blk hO (by cases Q with | nil=>exact absurd rfl h0 | cons _ _=>simp)
  exact ⟨g,C,e1,Nat.le_trans hbs e3,e2⟩
 replace h1:=Lib.hid h1
 replace hb4:=Lib.hid hb4
 replace hown:=Lib.hid hown
 clear hO hb3 hl he hnd hmm hso hcS hcK hb1
 go_ret
 exact ⟨⟨q4,d4,rfl,h3,h1.out,hown.out⟩,hb4.out⟩
end
section
section
open Go.RowKit
theorem ds_same (x y:Int):dsP x y x y = 0:=by
 unfold dsP ap1
 split
 ·simp
 ·rfl
theorem right_nil {v:Ve} {t:List Rq} (hv:vehV v = 0) (ht:∀ q ∈ t,rqE q = 0):RightV v [] t:=by
 refine ⟨hv,ht,by simp,?_,fun s hs=>(by cases hs),fun k hk=>by simp at hk,[],v 0,v 1,v 3,rfl,?_⟩
 ·intro r
  exact .inl rfl
 ·rw [ds_same]
  unfold vehV vehCode firstV at hv
  split at hv
  ·cases hv
  ·split at hv
   ·cases hv
   ·rename_i h1 h2
    simp at h2
    omega
theorem newC_ok0 {fl:List Ve} {t:List Rq} (h:newC fl t = 0):(1≤fl.length∧fl.length≤4)∧(∀ v ∈ fl,vehV v = 0)∧∀ q ∈ t,rqE q = 0:=by
 unfold newC at h
 split at h
 ·cases h
 ·split at h
  ·cases h
  ·split at h
   ·cases h
   ·rename_i h1 h2 h3
    simp only [List.any_eq_true,not_exists,not_and,bne_iff_ne,ne_eq,Decidable.not_not] at h2 h3
    exact ⟨by omega,h2,h3⟩
theorem ok0 {fl:List Ve} {t:List Rq} (h:newC fl t = 0):PlnOk fl (rows0 fl) t:=by
 obtain ⟨h1,h2,h3⟩:=newC_ok0 h
 refine ⟨by simp [rows0],h1,h2,h3,fun i hi=>?_,fun i j s s' hs=>?_⟩
 ·rw [rows0_at]
  refine right_nil (h2 _ ?_) h3
  rw [List.getD_eq_getElem?_getD,List.getElem?_eq_getElem hi]
  exact List.getElem_mem hi
 ·rw [rows0_at] at hs
  cases hs
structure PSt (B:Nat) (w:World) (b gT gM N:Nat) (fl:List Ve) (rows:List Rou2) (t:List Rq):Prop where
 at_:∃ F,PlanAt w F b gT gM N fl rows t
 ok:PlnOk fl rows t
 tl:t.length≤1000
 gB:B≤gT∧B≤gM∧gT < w.heap.size∧gM < w.heap.size
section
variable {B b gT gM N:Nat} {w:World} {fl:List Ve} {rows:List Rou2} {t:List Rq}
theorem PSt.total (h:PSt B w b gT gM N fl rows t):Calls Tryz.prog 21 #[.pointer (some ⟨b,0,none⟩)] w fun e w'=>e = .returned (.int .i64 (totP fl rows t))∧Below w.heap.size w w':=by
 obtain ⟨⟨F,h1⟩,h2,h3,h4⟩:=h
 exact total_calls h2 h1
theorem PSt.all (h:PSt B w b gT gM N fl rows t) (hN:N≤100000):Calls Tryz.prog 32 #[.pointer (some ⟨b,0,none⟩)] w (AqPost w (allQ rows t)):=by
 obtain ⟨⟨F,h1⟩,h2,h3,h4⟩:=h
 exact pall_calls h2 h3 h1 hN
theorem PSt.has (h:PSt B w b gT gM N fl rows t) (req:Int) (hq:wf64 req):Calls Tryz.prog 22 #[.pointer (some ⟨b,0,none⟩),.int .i64 req] w fun e w'=>e = .returned (.bool (decide (0≤whereP rows req)))∧w = w':=by
 obtain ⟨⟨F,h1⟩,h2,h3,h4⟩:=h
 exact has_calls h1 req hq
end
end
section
open Go.RowKit
theorem wf_lit {n:Int} (h:-1000≤n∧n≤1000):wf64 n:=by unfold wf64; omega
end
section
open Go.RowKit
theorem plB_of {x y:Int} (h:0≤x∧x < 1024∧0≤y∧y < 1024):plB x y = true:=decide_eq_true h
theorem wiB_of {e l:Int} (h:0≤e∧e≤l∧l≤1048576):wiB e l = true:=decide_eq_true h
theorem drV_okP (B:List Int) (k:Int):vehV (drV B k) = 0:=by
 have h1:=nx_bd B (k + 1) (m:=20) (by omega)
 have h2:=nx_bd B (k + 2) (m:=20) (by omega)
 have h3:=nx_bd B (k + 3) (m:=20) (by omega)
 have h4:=nx_bd B (k + 4) (m:=20) (by omega)
 have h5:=nx_bd B (k + 5) (m:=100) (by omega)
 show vehCode (500 + nx B (k + 1) 20) (500 + nx B (k + 2) 20) (8 + nx B (k + 3) 20) (nx B (k + 4) 20) (300 + 8 * nx B (k + 5) 100) = 0
 unfold vehCode firstV
 rw [plB_of (by omega),decide_eq_true (by omega),decide_eq_true (by omega),decide_eq_true (by omega)]
 rfl
theorem drR_okP (B:List Int) (wd k fr:Int) (hf:0≤fr∧fr≤100000):rqE (drR B wd k fr) = 0:=by
 have h1:=nx_bd B (k + 1) (m:=40) (by omega)
 have h2:=nx_bd B (k + 2) (m:=60) (by omega)
 have h3:=nx_bd B (k + 3) (m:=20) (by omega)
 have h4:=nx_bd B (k + 4) (m:=20) (by omega)
 have h5:=nx_bd B (k + 5) (m:=20) (by omega)
 have h6:=nx_bd B (k + 6) (m:=20) (by omega)
 have h7:=nx_bd B (k + 7) (m:=9) (by omega)
 have h8:=nx_bd B (k + 8) (m:=4) (by omega)
 have h9:=wideI_bd wd
 show rqCode (500 + nx B (k + 3) 20) (500 + nx B (k + 4) 20) (500 + nx B (k + 5) 20) (500 + nx B (k + 6) 20) (fr + nx B (k + 1) 40) (fr + nx B (k + 1) 40 + wideI wd) (fr + nx B (k + 1) 40 + nx B (k + 2) 60) (fr + nx B (k + 1) 40 + nx B (k + 2) 60 + wideI wd + 30) (1 + nx B (k + 7) 9) (nx B (k + 8) 4) = 0
 unfold rqCode firstC
 rw [plB_of (by omega),plB_of (by omega),wiB_of (by omega),wiB_of (by omega),decide_eq_true (by omega),decide_eq_true (by omega)]
 rfl
end
end
end Go.Proofs.YtkaoflndbcfodaaGreat
