/-
  The row 'DealNew': a pack of the texts Den, pruned to what the row uses.
-/
import Derived.Test.YtkaoflndbcfodaaGreatDealNewQ24
import Derived.LaidEqlPtr
namespace Go.Proofs.YtkaoflndbcfodaaGreat
set_option maxHeartbeats 8000000
set_option maxRecDepth 100000
section
section
open Go.RowKit
def ptrA (o:Option Pc):Option Addr:=o.map fun p=>⟨p.b,0,none⟩
def ptrO (o:Option Pc):List Value:=[.pointer (ptrA o)]
def twiceAt (Q:List (Option Pc)) (c:Nat):Bool:=(List.range Q.length).any fun o=>decide ((o:Int) < (c:Int)) && decide (ptrA (Q.getD o none) = ptrA (Q.getD c none))
def cntM (Q:List (Option Pc)) (t:List Rq):Nat→Int→Option Int
 | 0=>fun _=>none
 | k + 1=>(allQ ((Q.getD k none).getD pc0).rows t).foldl (fun m r=>fun i=>if i = r then some ((m r).getD 0 + 1) else m i) (cntM Q t k)
def holdE (Q:List (Option Pc)) (t:List Rq) (H:List Int) (r:Nat):Int:=
 if ¬ (0≤H.getD r 0∧H.getD r 0 < (Q.length:Int))∨hasB ((Q.getD (H.getD r 0).toNat none).getD pc0) r = false then 12
 else if 1 < ((cntM Q t Q.length (r:Int)).getD 0) then 13 else 0
def holdK (Q:List (Option Pc)) (t:List Rq) (H:List Int):Nat→Int
 | 0=>0
 | r + 1=>if holdK Q t H r ≠ 0 then holdK Q t H r else holdE Q t H r
theorem holdK_stop (Q:List (Option Pc)) (t:List Rq) (H:List Int) {r:Nat} (h0:holdK Q t H r = 0) (h1:holdE Q t H r ≠ 0):∀ m,r < m→holdK Q t H m = holdE Q t H r
 | m + 1,h=>by
  by_cases e:r = m
  ·subst e
   show (if holdK Q t H r ≠ 0 then _ else _) = _
   rw [if_neg (fun h=>h h0)]
  ·have:=holdK_stop Q t H h0 h1 m (by omega)
   show (if holdK Q t H m ≠ 0 then holdK Q t H m else _) = _
   rw [if_pos (by rw [this]; exact h1),this]
def dlC (Q:List (Option Pc)) (t:List Rq) (H:List Int):Int:=
 if Q.length < 1∨8 < Q.length∨64 < H.length then 11
 else if (List.range Q.length).any (fun k=>decide (ptrA (Q.getD k none) = none)) then 1
 else if (List.range Q.length).any (twiceAt Q) then 13
 else holdK Q t H H.length
section
variable {ρ:Operand→Value} {o:Oper} {w:World} {x y:Operand}
theorem run_eqlN {p:Option Addr} (ho:o.op = .binOp .eql 42 x (.const (.pointer none)) 42) (hx:ρ x = .pointer p) (hc:∀ v,ρ (.const v) = v:=by intro _; rfl):(execOp ρ o).run Tryz.prog w = .ok (.value (.bool (decide (p = none)))) w:=by
 unfold execOp
 simp only [ho,hx,hc]
 go_simp
 cases p <;> rfl
theorem run_eqlP {p q:Option Addr} {v:Bool} (hv:decide (p = q) = v) (hp:∀ a,p = some a→∃ C T,Blk w a.block C T) (hq:∀ a,q = some a→∃ C T,Blk w a.block C T) (ho:o.op = .binOp .eql 42 x y 42) (hx:ρ x = .pointer p) (hy:ρ y = .pointer q):(execOp ρ o).run Tryz.prog w = .ok (.value (.bool v)) w:=by
 subst hv
 have hu:Tryz.prog.underlying 42 = some (.pointer 88):=by kernel_rfl
 obtain ⟨j,hj,hsz⟩:∃ j,Tryz.prog.info? 88 = some j∧j.size ≠ 0:=by
  have h:(Tryz.prog.info? 88).map (·.size) = some 3:=by kernel_rfl
  cases hi:Tryz.prog.info? 88 with
  | none=>rw [hi] at h; cases h
  | some i=>rw [hi] at h; exact ⟨i,rfl,by simp at h; omega⟩
 have key:(binOp .eql 42 (.pointer p) (.pointer q)).run Tryz.prog w = .ok (.bool (decide (p = q))) w:=by
  cases p with
  | none=>
   cases q with
   | none=>go_simp
   | some b=>
    have h:∀ d:Nat,(Op.equalIn (d + 1) 42 (.pointer none) (.pointer (some b))).run Tryz.prog w = .ok false w:=fun d=>by
     simp [Op.equalIn,run_underlying hu]
    simp only [binOp]
    simp [Op.equal,Op.maxDepth,h 9999]
  | some a=>
   cases q with
   | none=>go_simp
   | some b=>
    by_cases e:a = b
    ·subst e
     rw [run_eql_ptr_same w a hu hj]
     simp
    ·obtain ⟨C,T,h1⟩:=hp a rfl
     obtain ⟨C',T',h2⟩:=hq b rfl
     rw [run_eql_ptr_other w hu hj hsz e h1 h2]
     simp [e]
 have hg:(eqGuard .eql 42 x y (.pointer p) (.pointer q)).run Tryz.prog w = .ok () w:=by
  go_simp
 unfold execOp
 simp only [ho,hx,hy,Sem.run_bind,hg,key,Sem.run_pure,Result.andThen_ok]
end
section
variable {w:World} {Q:List (Option Pc)} {qP:Option Addr} {cP:Nat}
theorem pls_ptr (h:Els w qP 1 (Q.map ptrO)) {i:Nat} (hi:i < Q.length):∃ a,qP = some a∧w.cell? (a.add i) = some (.pointer (ptrA (Q.getD i none))):=by
 obtain ⟨a,e⟩:=h.some_of (k:=i) (by simpa using hi)
 have:=h.cells a e i (ptrO (Q.getD i none)) 0 (.pointer (ptrA (Q.getD i none))) (by rw [List.getElem?_map,List.getElem?_eq_getElem hi,List.getD_eq_getElem?_getD,List.getElem?_eq_getElem hi]; rfl) rfl
 exact ⟨a,e,by simpa using this⟩
theorem dnew1_calls (h:Els w qP 1 (Q.map ptrO)) (gB:Nat) (hB:Blk w gB #[.slice qP Q.length cP] 30) (k:Nat) (hk:k < Q.length):
  Calls Tryz.prog 30 #[.int .i64 (k:Int),.pointer (some ⟨gB,0,none⟩)] w fun e w'=>e = .returned (.bool (decide (ptrA (Q.getD k none) = none)))∧Below w.heap.size w w':=by
 obtain ⟨a,rfl,hc⟩:=pls_ptr h hk
 have hl1:=Lib.hid (run_cellPs (hB.cell (i:=0) rfl))
 have hl2:=Lib.hid (run_cellPl hc)
 generalize ptrA (Q.getD k none) = pv at *
 generalize Q.length = n at *
 clear h hB hc
 go_enter Tryz.func30,Tryz.ntmps30
 go_wp2_with (first | (refine wpList_load_v rfl 30 _ rfl ⟨gB,0,none⟩ rfl _ hl1.out ?_) | (refine wpList_v rfl (.pointer (some (a.add k))) (run_ixPl (k:=k) rfl rfl rfl hk) ?_) | (refine wpList_load_v rfl 42 _ rfl (a.add k) rfl _ hl2.out ?_) |
  (refine wpList_v rfl (.bool (decide (pv = none))) (run_eqlN rfl rfl) ?_))
 go_ret
 exact ⟨rfl,Below.refl _ _⟩
theorem dnew2_calls (h:Els w qP 1 (Q.map ptrO)) (hbl:∀ i a,ptrA (Q.getD i none) = some a→∃ C T,Blk w a.block C T) (gB gC gP:Nat) (hB:Blk w gB #[.slice qP Q.length cP] 30) (k c:Nat) (hk:k < Q.length) (hC:Blk w gC #[.int .i64 (c:Int)] 3) (hP:Blk w gP #[.pointer (ptrA (Q.getD c none))] 42):
  Calls Tryz.prog 31 #[.int .i64 (k:Int),.pointer (some ⟨gC,0,none⟩),.pointer (some ⟨gB,0,none⟩),.pointer (some ⟨gP,0,none⟩)] w fun e w'=>
   e = .returned (.bool (decide ((k:Int) < (c:Int)) && decide (ptrA (Q.getD k none) = ptrA (Q.getD c none))))∧Below w.heap.size w w':=by
 obtain ⟨a,e,hc⟩:=pls_ptr h hk
 have hmz:=fun z:Later (fun _=>False) w=>z.mod.below (Nat.le_refl _) (fun _ h=>h.elim)
 have hc1:=Lib.hid (fun z:Later (fun _=>False) w=>run_i64D ((hC.mod z.mod (fun h=>h)).cell (i:=0) (v:=.int .i64 (c:Int)) rfl))
 have hc2:=Lib.hid (fun z:Later (fun _=>False) w=>run_cellPs ((hB.mod z.mod (fun h=>h)).cell (i:=0) (v:=.slice qP Q.length cP) rfl))
 have hc3:=Lib.hid (fun z:Later (fun _=>False) w=>run_cellPl ((hP.mod z.mod (fun h=>h)).cell (i:=0) (v:=.pointer (ptrA (Q.getD c none))) rfl))
 have hc4:=Lib.hid (fun z:Later (fun _=>False) w=>run_cellPl (z.cell hc (fun h=>h)))
 have hq1:=Lib.hid (fun z:Later (fun _=>False) w=>(fun a ha=>by obtain ⟨C,T,hB⟩:=hbl k a ha; exact ⟨C,T,hB.mod z.mod (fun h=>h)⟩:∀ a,ptrA (Q.getD k none) = some a→∃ C T,Blk z.val a.block C T))
 have hq2:=Lib.hid (fun z:Later (fun _=>False) w=>(fun a ha=>by obtain ⟨C,T,hB⟩:=hbl c a ha; exact ⟨C,T,hB.mod z.mod (fun h=>h)⟩:∀ a,ptrA (Q.getD c none) = some a→∃ C T,Blk z.val a.block C T))
 replace hmz:=Lib.hid hmz
 clear hbl
 subst e
 generalize ptrA (Q.getD k none) = pk at *
 generalize ptrA (Q.getD c none) = pc at *
 generalize Q.length = n at *
 clear h hB hC hP hc
 obtain ⟨EQ,hEQ⟩:∃ EQ,decide (pk = pc) = EQ:=⟨_,rfl⟩
 rw [hEQ]
 replace hEQ:=Lib.hid hEQ
 by_cases hkc:(k:Int) < (c:Int)
 ·have e1:decide ((k:Int) < (c:Int)) = true:=decide_eq_true hkc
  rw [e1,Bool.true_and]
  replace e1:=Lib.hid e1
  go_enter Tryz.func31,Tryz.ntmps31
  go_upto_region 1 with fail
  refine wp_region_later (w0:=w) (S:=fun _=>False) (Mod.refl _ _) (by kernel_rfl) (by kernel_rfl) ?_
  go_big_quiet_step (fail)
  refine wpQuiet_v rfl (.int .i64 (c:Int)) (by rintro _ ⟨z,rfl⟩; exact run_load_v rfl rfl (hc1.out z)) ?_
  simp only [Act.put,List.setIfInBounds_toArray,List.set_cons_succ,List.set_cons_zero]
  refine wpQuiet_v rfl (.bool true) (by rintro _ ⟨z,rfl⟩; exact run_lssL e1.out rfl rfl rfl) ?_
  simp only [Act.put,List.setIfInBounds_toArray,List.set_cons_succ,List.set_cons_zero]
  go_big_quiet_step (fail)
  refine wpQuiet_v rfl (.slice (some a) n cP) (by rintro _ ⟨z,rfl⟩; exact run_load_v rfl rfl (hc2.out z)) ?_
  simp only [Act.put,List.setIfInBounds_toArray,List.set_cons_succ,List.set_cons_zero]
  go_big_quiet_step (fail)
  refine wpQuiet_v rfl (.pointer (some (a.add k))) (by rintro _ ⟨z,rfl⟩; exact run_ixPl (k:=k) rfl rfl rfl hk) ?_
  simp only [Act.put,List.setIfInBounds_toArray,List.set_cons_succ,List.set_cons_zero]
  refine wpQuiet_v rfl (.pointer pk) (by rintro _ ⟨z,rfl⟩; exact run_load_v rfl rfl (hc4.out z)) ?_
  simp only [Act.put,List.setIfInBounds_toArray,List.set_cons_succ,List.set_cons_zero]
  refine wpQuiet_v rfl (.pointer pc) (by rintro _ ⟨z,rfl⟩; exact run_load_v rfl rfl (hc3.out z)) ?_
  simp only [Act.put,List.setIfInBounds_toArray,List.set_cons_succ,List.set_cons_zero]
  refine wpQuiet_v rfl (.bool EQ) (by rintro _ ⟨z,rfl⟩; exact run_eqlP hEQ.out (hq1.out z) (hq2.out z) rfl rfl rfl) ?_
  simp only [Act.put,List.setIfInBounds_toArray,List.set_cons_succ,List.set_cons_zero]
  repeat (go_big_quiet_step (fail))
  refine wpQuiet_nil ?_
  rintro _ ⟨z,rfl⟩
  have hb:=hmz.out z
  generalize z.val = w2 at *
  clear hc1 hc2 hc3 hc4 hmz hq1 hq2
  go_wp2_with fail
  go_ret
  exact ⟨rfl,hb⟩
 ·have e1:decide ((k:Int) < (c:Int)) = false:=decide_eq_false hkc
  rw [e1,Bool.false_and]
  replace e1:=Lib.hid e1
  go_enter Tryz.func31,Tryz.ntmps31
  go_upto_region 1 with fail
  refine wp_region_later (w0:=w) (S:=fun _=>False) (Mod.refl _ _) (by kernel_rfl) (by kernel_rfl) ?_
  go_big_quiet_step (fail)
  refine wpQuiet_v rfl (.int .i64 (c:Int)) (by rintro _ ⟨z,rfl⟩; exact run_load_v rfl rfl (hc1.out z)) ?_
  simp only [Act.put,List.setIfInBounds_toArray,List.set_cons_succ,List.set_cons_zero]
  refine wpQuiet_v rfl (.bool false) (by rintro _ ⟨z,rfl⟩; exact run_lssL e1.out rfl rfl rfl) ?_
  simp only [Act.put,List.setIfInBounds_toArray,List.set_cons_succ,List.set_cons_zero]
  repeat (go_big_quiet_step (fail))
  refine wpQuiet_nil ?_
  rintro _ ⟨z,rfl⟩
  have hb:=hmz.out z
  generalize z.val = w2 at *
  clear hc1 hc2 hc3 hc4 hmz hq1 hq2
  go_wp2_with fail
  go_ret
  exact ⟨rfl,hb⟩
end
theorem blk_neD {w:World} {g g':Nat} {C C':Array Value} {T T':TypeId} (hB:Blk w g C T) (hB2:Blk w g' C' T') (hT:T ≠ T'):g ≠ g':=by
 rintro rfl
 have h1:w.heap[g]? = some (.cells C T (0,0)):=hB
 have h2:w.heap[g]? = some (.cells C' T' (0,0)):=hB2
 rw [h1] at h2
 cases h2
 exact hT rfl
theorem pl_elD:ElT Tryz.prog 30 42 1 8:=⟨Tryz.underlying30,by kernel_rfl,by kernel_rfl,by kernel_rfl,by omega,by omega⟩
theorem rsl_plZ (w:World):(Instr.buildSlice 30 0 #[]).run Tryz.prog w = .ok (.slice (some ⟨w.heap.size,0,none⟩) 0 0) (w.alloc (.cells #[] 42)):=by kernel_rfl
theorem ptrO_len (Q:List (Option Pc)):∀ x ∈ Q.map ptrO,x.length = 1:=fun x hx=>by
 obtain ⟨s,_,rfl⟩:=List.mem_map.1 hx
 rfl
theorem ptrO_all (Q:List (Option Pc)):∀ z ∈ Q.map ptrO,∀ u ∈ z,u.oneCell' = true:=by
 intro z hz
 obtain ⟨s,_,rfl⟩:=List.mem_map.1 hz
 simp [ptrO,Value.oneCell']
theorem inV_lenD (H:List Int):∀ x ∈ H.map inV,x.length = 1:=fun x hx=>by
 obtain ⟨s,_,rfl⟩:=List.mem_map.1 hx
 rfl
structure DnS (w:World) (Q:List (Option Pc)) (H:List Int) (qP:Option Addr) (cP gB d gP cP':Nat) (qH':Option Addr) (cH':Nat) (W:World):Prop where
 low:Below w.heap.size w W
 q:Els W qP 1 (Q.map ptrO)
 b:Blk W gB #[.slice qP Q.length cP] 30
 box:Blk W d #[.slice (some ⟨gP,0,none⟩) Q.length cP',.slice qH' H.length cH'] 92
 pls:Els W (some ⟨gP,0,none⟩) 1 (Q.map ptrO)
 plB:∃ C,Blk W gP C 42
 hol:Els W qH' 1 (H.map inV)
 hb:H ≠ []→∃ gH C,qH' = some ⟨gH,0,none⟩∧Blk W gH C 3∧w.heap.size≤gH
 ge:w.heap.size≤d∧w.heap.size≤gP
section
variable {w:World} {Q:List (Option Pc)} {H:List Int} {qP:Option Addr} {cP gB d gP cP':Nat} {qH':Option Addr} {cH':Nat} {W W':World}
theorem DnS.below (h:DnS w Q H qP cP gB d gP cP' qH' cH' W) (hb:Below W.heap.size W W'):DnS w Q H qP cP gB d gP cP' qH' cH' W':=by
 have hm:=(Mod.refl (fun _=>False) W).after hb
 refine ⟨h.low.trans (hb.mono h.low.size),h.q.below hb,h.b.mod hm (fun h=>h),h.box.mod hm (fun h=>h),h.pls.below hb,?_,h.hol.below hb,fun h0=>?_,h.ge⟩
 ·obtain ⟨C,hC⟩:=h.plB
  exact ⟨C,hC.mod hm (fun h=>h)⟩
 ·obtain ⟨gH,C,e,hB,hg⟩:=h.hb h0
  exact ⟨gH,C,e,hB.mod hm (fun h=>h),hg⟩
theorem DnS.deal {B:Nat} {t:List Rq} (h:DnS w Q H qP cP gB d gP cP' qH' cH' W) (hat:∀ p,some p ∈ Q→PcAt B w t p) (hn:∀ o ∈ Q,o ≠ none) (h1:(1≤Q.length∧Q.length≤8)∧H.length≤64):
  DlIn W d (Q.map (·.getD pc0)) H gP cP' qH' cH':=by
 have e:(Q.map (·.getD pc0)).map ptrR = Q.map ptrO:=by
  rw [List.map_map]
  apply List.map_congr_left
  intro o ho
  cases o with
  | none=>exact absurd rfl (hn _ ho)
  | some p=>rfl
 have hne:gP ≠ d:=by
  obtain ⟨C,hC⟩:=h.plB
  exact blk_neD hC h.box (by decide)
 have hF:∀ p ∈ Q.map (·.getD pc0),∀ k,p.F k→k < w.heap.size:=fun p hp k hk=>by
  obtain ⟨o,ho,rfl⟩:=List.mem_map.1 hp
  cases o with
  | none=>exact absurd rfl (hn _ ho)
  | some p=>exact (hat p ho).own.2.2.2 k hk
 refine ⟨by rw [List.length_map]; exact h.box,by rw [e]; exact h.pls,h.hol,fun h0=>?_,⟨h.box.lt,?_⟩,fun p hp=>⟨fun hk=>?_,fun hk=>?_,fun a ha h0 hk=>?_⟩,fun a ha h0=>?_,by rw [List.length_map]; exact h1⟩
 ·obtain ⟨gH,C,e,hB,_⟩:=h.hb h0
  exact ⟨gH,C,e,hB⟩
 ·obtain ⟨C,hC⟩:=h.plB
  exact hC.lt
 ·have:=hF p hp _ hk
  have:=h.ge.1
  omega
 ·have:=hF p hp _ hk
  have:=h.ge.2
  omega
 ·obtain ⟨gH,C,e2,hB,hg⟩:=h.hb h0
  rw [e2] at ha
  cases ha
  have:=hF p hp _ hk
  simp only at this
  omega
 ·obtain ⟨gH,C,e2,hB,hg⟩:=h.hb h0
  rw [e2] at ha
  cases ha
  obtain ⟨C2,hC⟩:=h.plB
  exact blk_neD hB hC (by decide)
end
def updM (m:Int→Option Int) (r:Int):Int→Option Int:=fun i=>if i = r then some ((m r).getD 0 + 1) else m i
theorem updM_bd:∀ (xs:List Int) (m:Int→Option Int) (b:Nat),(∀ i,0≤(m i).getD 0∧(m i).getD 0≤b)→∀ i,0≤((xs.foldl updM m) i).getD 0∧((xs.foldl updM m) i).getD 0≤(b + xs.length:Nat)
 | [],m,b,h,i=>by simpa using h i
 | x :: xs,m,b,h,i=>by
  have:=updM_bd xs (updM m x) (b + 1) (fun j=>by
   unfold updM
   have h1:=h x
   have h2:=h j
   split
   ·simp only [Option.getD_some]; omega
   ·omega) i
  simp only [List.foldl_cons,List.length_cons]
  omega
theorem cntM_succ (Q:List (Option Pc)) (t:List Rq) (k:Nat):cntM Q t (k + 1) = (allQ ((Q.getD k none).getD pc0).rows t).foldl updM (cntM Q t k):=rfl
theorem cntM_bd (Q:List (Option Pc)) (t:List Rq) (ht:t.length≤1000):∀ k i,0≤(cntM Q t k i).getD 0∧(cntM Q t k i).getD 0≤(1000 * k:Nat)
 | 0,i=>by simp [cntM]
 | k + 1,i=>by
  rw [cntM_succ]
  have:=updM_bd (allQ ((Q.getD k none).getD pc0).rows t) (cntM Q t k) (1000 * k) (cntM_bd Q t ht k) i
  have h2:=allQ_len ((Q.getD k none).getD pc0).rows t
  omega
def DnPost28 (_:Nat) (w:World) (t:List Rq) (Q:List (Option Pc)) (H:List Int) (e:Ending) (w':World):Prop:=
 Below w.heap.size w w'∧((dlC Q t H ≠ 0∧e = .returned (.tuple #[.pointer none,.int .i64 (dlC Q t H)]))∨
  (dlC Q t H = 0∧∃ d gP cP qH cH,e = .returned (.tuple #[.pointer (some ⟨d,0,none⟩),.int .i64 0])∧DlIn w' d (Q.map (·.getD pc0)) H gP cP qH cH∧w.heap.size≤d∧w.heap.size≤gP∧∀ a,qH = some a→H ≠ []→w.heap.size≤a.block))
theorem dn_err {B:Nat} {w w':World} {t:List Rq} {Q:List (Option Pc)} {H:List Int} {c:Int} (hb:Below w.heap.size w w') (h:dlC Q t H = c) (hc:c ≠ 0):DnPost28 B w t Q H (.returned (.tuple #[.pointer none,.int .i64 c])) w':=by
 subst h
 exact ⟨hb,.inl ⟨hc,rfl⟩⟩
section
variable {ρ:Operand→Value} {o:Oper} {w w':World} {x y:Operand}
theorem run_bldDl {q1 q2:Option Addr} {n1 c1 n2 c2:Nat} (ho:o.op = .build 92 #[(0,x),(1,y)]) (hx:ρ x = .slice q1 n1 c1) (hy:ρ y = .slice q2 n2 c2):(execOp ρ o).run Tryz.prog w = .ok (.value (.agg #[.slice q1 n1 c1,.slice q2 n2 c2])) w:=by
 have hr:(Instr.build 92 #[(0,.slice q1 n1 c1),(1,.slice q2 n2 c2)]).run Tryz.prog w = .ok (.agg #[.slice q1 n1 c1,.slice q2 n2 c2]) w:=by kernel_rfl
 unfold execOp
 simp only [ho,List.map_toArray,List.map_cons,List.map_nil,hx,hy,Sem.run_bind,hr,Sem.run_pure,Result.andThen_ok]
end
theorem dnew_calls {B:Nat} {t:List Rq} (Q:List (Option Pc)) (H:List Int) (qP qH:Option Addr) (cP cH:Nat) (w:World) (hq:Els w qP 1 (Q.map ptrO)) (hH:Els w qH 1 (H.map inV)) (hQl:Q.length≤1000) (hHl:H.length≤1000)
  (hat:∀ p,some p ∈ Q→PcAt B w t p) (htl:t.length≤1000) (hN:∀ p,some p ∈ Q→p.N≤100000):
  Calls Tryz.prog 12 #[.slice qP Q.length cP,.slice qH H.length cH] w (DnPost28 B w t Q H):=by
 have hmf:∀ (fn:Fn) (first cap:Array Value) (w:World),(Instr.makeFunc fn first cap).run Tryz.prog w = .ok (.func fn first cap) w:=fun _ _ _ _=>rfl
 have hR11:=Lib.hid (show (Q.length < 1∨8 < Q.length∨64 < H.length)→dlC Q t H = 11 from fun h=>if_pos h)
 have hR1:=Lib.hid (show ¬ (Q.length < 1∨8 < Q.length∨64 < H.length)→(List.range Q.length).any (fun k=>decide (ptrA (Q.getD k none) = none)) = true→dlC Q t H = 1 from fun h h2=>by unfold dlC; rw [if_neg h,if_pos h2])
 have hR13:=Lib.hid (show ¬ (Q.length < 1∨8 < Q.length∨64 < H.length)→(List.range Q.length).any (fun k=>decide (ptrA (Q.getD k none) = none)) = false→(List.range Q.length).any (twiceAt Q) = true→dlC Q t H = 13 from fun h h2 h3=>by
  unfold dlC; rw [if_neg h,if_neg (by rw [h2]; simp),if_pos h3])
 have hRK:=Lib.hid (show ¬ (Q.length < 1∨8 < Q.length∨64 < H.length)→(List.range Q.length).any (fun k=>decide (ptrA (Q.getD k none) = none)) = false→(List.range Q.length).any (twiceAt Q) = false→dlC Q t H = holdK Q t H H.length from fun h h2 h3=>by
  unfold dlC; rw [if_neg h,if_neg (by rw [h2]; simp),if_neg (by rw [h3]; simp)])
 obtain ⟨n,hn⟩:∃ n,Q.length = n:=⟨_,rfl⟩
 obtain ⟨m,hm⟩:∃ m,H.length = m:=⟨_,rfl⟩
 rw [hn,hm]
 have hB0:=Lib.hid (Blk.new w #[.slice qP n cP] 30)
 have hb0:=Lib.hid (new_below w (.cells #[.slice qP n cP] 30))
 go_enter Tryz.func12,Tryz.ntmps12
 go_upto_region 1 with fail
 refine wp_world' (fun wx=>Blk wx w.heap.size #[.slice qP n cP] 30∧Below w.heap.size w wx) ⟨hB0.out,hb0.out⟩ ?_
 clear hB0 hb0
 rintro w1 ⟨hB,hb⟩
 have hl1:=Lib.hid (run_cellPs (hB.cell (i:=0) rfl))
 by_cases c0:n < 1∨8 < n∨64 < m
 ·have hz:=hR11.out (by rw [hn,hm]; exact c0)
  replace hb:=Lib.hid hb
  replace hz:=Lib.hid hz
  clear hR1 hR13 hRK hR11 hB hq hH hat hN
  by_cases c1:n < 1
  ·have c1I:(n:Int) < 1:=by omega
   go_wp2_with (refine wpList_load_v rfl 30 _ rfl ⟨w.heap.size,0,none⟩ rfl _ hl1.out ?_)
   go_ret2
   exact dn_err hb.out hz.out (by omega)
  ·have c1I:¬ (n:Int) < 1:=by omega
   by_cases c2:8 < n
   ·have c2I:(8:Int) < (n:Int):=by omega
    go_wp2_with (refine wpList_load_v rfl 30 _ rfl ⟨w.heap.size,0,none⟩ rfl _ hl1.out ?_)
    go_ret2
    exact dn_err hb.out hz.out (by omega)
   ·have c2I:¬ (8:Int) < (n:Int):=by omega
    have c3I:(64:Int) < (m:Int):=by omega
    go_wp2_with (refine wpList_load_v rfl 30 _ rfl ⟨w.heap.size,0,none⟩ rfl _ hl1.out ?_)
    go_ret2
    exact dn_err hb.out hz.out (by omega)
 ·have c1I:¬ (n:Int) < 1:=by omega
  have c2I:¬ (8:Int) < (n:Int):=by omega
  have c3I:¬ (64:Int) < (m:Int):=by omega
  have hcc:=Lib.hid (show ¬ (Q.length < 1∨8 < Q.length∨64 < H.length) from by rw [hn,hm]; exact c0)
  have hBA:=Lib.hid (hB.alloc (.cells #[] 42))
  have hl2:=Lib.hid (run_cellPs (hBA.out.cell (i:=0) rfl))
  have ho1:=Lib.hid (World.ownsRow_made (base:=w1.heap.size) (e:=42) (size:=1) w1 #[] 0 (Nat.le_refl _) (by unfold maxLen; omega) rfl)
  have hlow1:=Lib.hid (new_below w1 (.cells #[] 42))
  have hq1:=Lib.hid ((hq.below hb).below hlow1.out)
  have hz1:=Lib.hid hlow1.out.size
  have hQn:=Lib.hid (show n = (Q.map ptrO).length by rw [List.length_map,hn])
  have hHm:=Lib.hid (show m = (H.map inV).length by rw [List.length_map,hm])
  have hQa:=Lib.hid (ptrO_all Q)
  have hHa:=Lib.hid (inV_allD H)
  have hH1:=Lib.hid (hH.below hb)
  have hn9:n≤8:=by omega
  have hm64:m≤64:=by omega
  have hB:=Lib.hid hB
  replace hb:=Lib.hid hb
  replace hn:=Lib.hid hn
  replace hm:=Lib.hid hm
  go_upto_region 4 with (first | (refine wpList_load_v rfl 30 _ rfl ⟨w.heap.size,0,none⟩ rfl _ hl1.out ?_) | (refine wpList_load_v rfl 30 _ rfl ⟨w.heap.size,0,none⟩ rfl _ hl2.out ?_) | (refine wpList_bs0 rfl 30 0 rfl _ _ (rsl_plZ _) ?_) |
   (refine wpList_appE pl_elD rfl _ _ rfl w1.heap.size hz1.out _ 0 [] rfl ho1.out (by omega) qP n cP _ rfl hq1.out hQn.out (by omega) hQa.out ?_; intro v29 w29 hO29 hg29; obtain ⟨q29,n29,c29,rfl⟩:=own_isS hO29) |
   (refine wpList_bs0 rfl 35 0 rfl _ _ (rsl_inZ _) ?_) |
   (refine wpList_appE in_elD rfl _ _ rfl w29.heap.size (new_below w29 (.cells #[] 3)).size _ 0 [] rfl (World.ownsRow_made (base:=w29.heap.size) (e:=3) (size:=1) w29 #[] 0 (Nat.le_refl _) (by unfold maxLen; omega) rfl) (by omega) qH m cH _ rfl
     (hH1.out.below ((grown_low hlow1.out (Nat.le_refl _) (Nat.le_refl _) ho1.out hg29).alloc (grown_low hlow1.out (Nat.le_refl _) (Nat.le_refl _) ho1.out hg29).size _)) hHm.out (by omega) hHa.out ?_; intro v32 w32 hO32 hg32; obtain ⟨q32,n32,c32,rfl⟩:=own_isS hO32) |
   (refine wpList_v rfl (.agg #[.slice q29 n29 c29,.slice q32 n32 c32]) (run_bldDl rfl rfl rfl) ?_))
  have hlow29:=grown_low hlow1.out (Nat.le_refl _) (Nat.le_refl _) ho1.out hg29
  have hlow30:=hlow29.alloc hlow29.size (.cells #[] 3)
  have ho31:=World.ownsRow_made (base:=w29.heap.size) (e:=3) (size:=1) w29 #[] 0 (Nat.le_refl _) (by unfold maxLen; omega) rfl
  have hlow32:=grown_low hlow30 hlow29.size (Nat.le_refl _) ho31 hg32
  have hl2932:=grown_low (new_below w29 (.cells #[] 3)) (Nat.le_refl _) (Nat.le_refl _) ho31 hg32
  rw [Nat.zero_add,List.nil_append] at hO29 hO32
  obtain ⟨hE29,hn29,_,_⟩:=own_els (R:=Q.map ptrO) (ptrO_len Q) (by rw [List.length_map,hn.out]; exact hO29) (by rw [List.length_map,hn.out]; omega)
  obtain ⟨hE32,hn32,_,hf32⟩:=own_els (R:=H.map inV) (inV_lenD H) (by rw [List.length_map,hm.out]; exact hO32) (by rw [List.length_map,hm.out]; omega)
  rw [List.length_map,hn.out] at hn29
  rw [List.length_map,hm.out] at hn32
  subst hn29 hn32
  obtain ⟨gP,CP,rfl,hBP,hgP,_⟩:=ownS_blk hO29 (by omega)
  have hlow33:=hlow32.alloc hlow32.size (.cells #[.slice (some ⟨gP,0,none⟩) n29 c29,.slice q32 n32 c32] 92)
  have hall:=hb.out.trans (hlow33.mono hb.out.size)
  have hm33:=(Mod.refl (fun _=>False) w1).after hlow33
  have hm2933:=(Mod.refl (fun _=>False) w29).after (hl2932.alloc hl2932.size (.cells #[.slice (some ⟨gP,0,none⟩) n29 c29,.slice q32 n32 c32] 92))
  have hbs:=hb.out.size
  have h29s:=hlow29.size
  have h32s:=hlow32.size
  have hS:DnS w Q H qP cP w.heap.size w32.heap.size gP c29 q32 c32 (w32.alloc (.cells #[.slice (some ⟨gP,0,none⟩) n29 c29,.slice q32 n32 c32] 92)):=by
   refine ⟨hall,hq.below hall,by rw [hn.out]; exact hB.out.mod hm33 (fun h=>h),by rw [hn.out,hm.out]; exact Blk.new _ _ _,els_modP hE29 hm2933 (fun _ _ _ h=>h),⟨_,hBP.mod hm2933 (fun h=>h)⟩,hE32.below (new_below _ _),fun h0=>?_,by omega,by omega⟩
   have hm0:0 < n32:=by
    rw [← hm.out]
    exact List.length_pos_iff.2 h0
   obtain ⟨gH,CH,e,hBH,hgH,_⟩:=ownS_blk hO32 hm0
   exact ⟨gH,CH,e,hBH.mod ((Mod.refl (fun _=>False) _).alloc _) (fun h=>h),by omega⟩
  replace hS:=Lib.hid hS
  clear hO29 hO32 hg29 hg32 hlow29 hlow30 ho31 hlow32 hl2932 hE29 hE32 hf32 hBP hlow33 hall hm33 hm2933 h29s h32s ho1 hlow1 hq1 hz1 hQn hHm hQa hHa hH1 hBA hl1 hl2 hB hb hbs hR11 hgP
  generalize w32.heap.size = d at *
  refine wp_world' (fun wx=>DnS w Q H qP cP w.heap.size d gP c29 q32 c32 wx) hS.out ?_
  clear hS
  rintro w6 hS
  have hH6:=hS.low
  have hge:=hS.ge
  obtain ⟨aQ,rfl⟩:=hS.q.some_of (k:=0) (by rw [List.length_map,hn.out]; omega)
  have hkd:=fun wx (hb:Below w6.heap.size w6 wx)=>(by have:=(hS.below hb).box.cell (i:=0) rfl; rw [hn.out] at this; exact this:wx.cell? ⟨d,0,none⟩ = some (.slice (some ⟨gP,0,none⟩) n29 c29))
  have ha1:=Lib.hid (dany_calls d n29 c29 (some ⟨gP,0,none⟩) 30 #[.pointer (some ⟨w.heap.size,0,none⟩)] (fun k=>decide (ptrA (Q.getD k none) = none)) w6 (hkd w6 (Below.refl _ _)) (by omega) (fun _ _=>by go_simp)
   (fun k hk wy hy=>dnew1_calls (hS.below hy).q w.heap.size (hS.below hy).b k (by rw [hn.out]; exact hk)))
  have hR1':=Lib.hid (fun h=>hR1.out hcc.out (by rw [hn.out]; exact h))
  have hA0:=Lib.hid (show (List.range n29).any (fun k=>decide (ptrA (Q.getD k none) = none)) = false→∀ o ∈ Q,o ≠ none from fun h o ho e=>by
   obtain ⟨i,hi,rfl⟩:=List.mem_iff_getElem.1 ho
   rw [List.any_eq_false] at h
   refine h i (List.mem_range.2 (by rw [← hn.out]; exact hi)) ?_
   rw [List.getD_eq_getElem?_getD,List.getElem?_eq_getElem hi,Option.getD_some,e]
   rfl)
  have hR13':=Lib.hid (fun h1 h2=>hR13.out hcc.out (by rw [hn.out]; exact h1) h2)
  have hRK':=Lib.hid (fun h1 h2=>hRK.out hcc.out (by rw [hn.out]; exact h1) h2)
  replace hkd:=Lib.hid hkd
  replace hS:=Lib.hid hS
  replace hH6:=Lib.hid hH6
  replace hat:=Lib.hid hat
  replace hN:=Lib.hid hN
  obtain ⟨A1,hA1⟩:∃ A1,(List.range n29).any (fun k=>decide (ptrA (Q.getD k none) = none)) = A1:=⟨_,rfl⟩
  rw [hA1] at ha1 hR1' hR13' hRK' hA0
  clear hA1 hR1 hR13 hRK hq hH hcc
  go_wp2_with fail
  refine ha1.out.mono ?_
  clear ha1
  rintro e w7 ⟨rfl,hb7⟩
  have hSn:=Lib.hid (hS.out.below hb7)
  have hL7:=Lib.hid (hSn.out.low)
  cases A1 with
  | true=>
   have hz:=Lib.hid (hR1'.out rfl)
   clear hR1' hR13' hRK' hA0 hSn hkd hS hH6 hat hN hb7
   go_wp2_with fail
   go_ret2
   exact dn_err hL7.out hz.out (by omega)
  | false=>
   have hnn:=Lib.hid (hA0.out rfl)
   have hmm:=@run_makeMap Tryz.prog
   have hR13:=Lib.hid (hR13'.out rfl)
   have hRK:=Lib.hid (hRK'.out rfl)
   have hM0:=Lib.hid (MapV.new Tryz.prog 3 3 w7)
   have hbm:=Lib.hid (new_below w7 (.map #[] 0))
   clear hR1' hR13' hRK' hA0 hS hH6
   go_upto_region 7 with fail
   generalize hgM:w7.heap.size = gM at *
   refine wp_world' (fun wx=>MapV Tryz.prog 3 3 wx gM 0 (fun _=>none)∧Below gM w7 wx) ⟨hM0.out,hbm.out⟩ ?_
   clear hM0 hbm
   rintro w8 ⟨hM,hb8⟩
   have hgM8:Hid (gM < w8.heap.size):=Lib.hid hM.lt
   have hSb:=Lib.hid (fun wx (hx:Below gM w7 wx)=>hSn.out.below (by rw [hgM]; exact hx))
   have hl8:=Lib.hid (run_cellPs ((hSb.out w8 hb8).b.cell (i:=0) rfl))
   have hkd7:=Lib.hid (fun wx (hx:Below gM w7 wx)=>hkd.out wx (hb7.trans (hx.mono (by have:=hb7.size; omega))))
   have hM0:=Lib.hid (show MapV Tryz.prog 3 3 w8 gM 0 (cntM Q t 0) from hM)
   have hgle:=Lib.hid (show w.heap.size≤gM from by have:=hL7.out.size; omega)
   replace hb8:=Lib.hid hb8
   replace hgM:=Lib.hid hgM
   clear hM hkd hb7 hSn
   have hl8':=hl8.out
   rw [hn.out] at hl8'
   replace hl8:=Lib.hid hl8'
   clear hl8'
   go_wp2_with (refine wpList_load_v rfl 30 _ rfl ⟨w.heap.size,0,none⟩ rfl _ hl8.out ?_)
   clear hl8
   go_loopw [41] (fun s41 wx=>∃ k:Nat,k≤n29∧s41 = .int .i64 k∧(∃ N,N≤1000 * k∧MapV Tryz.prog 3 3 wx gM N (cntM Q t k))∧Hid (∀ j,j < k→twiceAt Q j = false)∧Below gM w7 wx) (fun s41 _=>n29 - (intOf s41).toNat)
   case atStart=>exact ⟨0,Nat.zero_le _,rfl,⟨0,by omega,hM0.out⟩,Lib.hid (fun j h=>by omega),hb8.out⟩
   case round=>
    clear hM0 hb8
    obtain ⟨k,hk,rfl,⟨N,hNb,hM⟩,hno,hb⟩:=hrel
    by_cases hlt:k < n29
    ·have hltI:(k:Int) < (n29:Int):=by omega
     have hk0:(0:Int)≤(k:Int):=by omega
     have s1:IntKind.i64.wrap ((k:Int) + 1) = (k:Int) + 1:=IntWalk.i64_in _ (by omega)
     have hkQ:k < Q.length:=by rw [hn.out]; exact hlt
     obtain ⟨p,hp,hpm⟩:∃ p,Q.getD k none = some p∧some p ∈ Q:=by
      have hmem:Q[k] ∈ Q:=List.getElem_mem hkQ
      have e:Q.getD k none = Q[k]:=by rw [List.getD_eq_getElem?_getD,List.getElem?_eq_getElem hkQ]; rfl
      cases hq:Q[k] with
      | none=>exact absurd hq (hnn.out _ hmem)
      | some p=>exact ⟨p,by rw [e,hq],by rw [← hq]; exact hmem⟩
     have hSx:=hSb.out wr hb
     obtain ⟨a2,ea2,hcx⟩:=pls_ptr hSx.q hkQ
     cases ea2
     rw [hp] at hcx
     have hlx:=Lib.hid (run_cellPl hcx)
     have hall:=Lib.hid (fun wx (hx:Below gM w7 wx)=>(((hat.out p hpm).below (hSb.out wx hx).low).pst htl).all (hN.out p hpm))
     have hcn:=cntM_succ Q t k
     rw [hp] at hcn
     have hcb:=cntM_bd Q t htl k
     have hAl:=allQ_len p.rows t
     have hAm:=fun r (h:r ∈ allQ p.rows t)=>(allQ_mem.1 h).1
     change cntM Q t (k + 1) = (allQ p.rows t).foldl updM (cntM Q t k) at hcn
     have htw:twiceAt Q k = (List.range n29).any (fun o=>decide ((o:Int) < (k:Int)) && decide (ptrA (Q.getD o none) = ptrA (Q.getD k none))):=by
      unfold twiceAt
      rw [hn.out]
     have hany2:=Lib.hid (fun wx (hx:Below gM w7 wx) (gC gQ:Nat) (hC:Blk wx gC #[.int .i64 (k:Int)] 3) (hQ:Blk wx gQ #[.pointer (ptrA (some p))] 42)=>(by
      have:=dany_calls d n29 c29 (some ⟨gP,0,none⟩) 31 #[.pointer (some ⟨gC,0,none⟩),.pointer (some ⟨w.heap.size,0,none⟩),.pointer (some ⟨gQ,0,none⟩)] (fun o=>decide ((o:Int) < (k:Int)) && decide (ptrA (Q.getD o none) = ptrA (Q.getD k none))) wx (hkd7.out wx hx) (by omega) (fun _ _=>by go_simp)
       (fun o ho wy hy=>dnew2_calls ((hSb.out wx hx).below hy).q (fun i a ha=>by
         cases hq:Q.getD i none with
         | none=>rw [hq] at ha; cases ha
         | some p2=>
          rw [hq] at ha
          cases ha
          have hi:i < Q.length:=by
           refine Classical.byContradiction fun hh=>?_
           rw [List.getD_eq_getElem?_getD,List.getElem?_eq_none (by omega)] at hq
           cases hq
          have hm2:some p2 ∈ Q:=by
           rw [List.getD_eq_getElem?_getD,List.getElem?_eq_getElem hi] at hq
           have:Q[i] = some p2:=hq
           rw [← this]
           exact List.getElem_mem hi
          obtain ⟨⟨_,_,_,_,h1⟩,_⟩:=((hat.out p2 hm2).below (hSb.out wx hx).low).below hy
          exact ⟨_,_,h1.box⟩) w.heap.size gC gQ ((hSb.out wx hx).below hy).b o k (by rw [hn.out]; exact ho)
        (hC.mod ((Mod.refl (fun _=>False) _).after hy) (fun h=>h)) (by rw [hp]; exact hQ.mod ((Mod.refl (fun _=>False) _).after hy) (fun h=>h)))
      rw [← htw] at this
      exact this:Calls Tryz.prog 29 #[.pointer (some ⟨d,0,none⟩),.func (.func 31) #[] #[.pointer (some ⟨gC,0,none⟩),.pointer (some ⟨w.heap.size,0,none⟩),.pointer (some ⟨gQ,0,none⟩)]] wx fun e w'=>e = .returned (.bool (twiceAt Q k))∧Below wx.heap.size wx w'))
     have hnx:Hid (twiceAt Q k = false→∀ j,j < k + 1→twiceAt Q j = false):=Lib.hid (fun h j hj=>by
      by_cases e:j = k
      ·subst e; exact h
      ·exact hno.out j (by omega))
     have hbad:Hid (twiceAt Q k = true→dlC Q t H = 13):=Lib.hid (fun h=>hR13.out (List.any_eq_true.2 ⟨k,List.mem_range.2 hkQ,h⟩))
     generalize twiceAt Q k = tw at hany2 hnx hbad
     replace hM:=Lib.hid hM
     replace hcn:=Lib.hid hcn
     replace hcb:=Lib.hid hcb
     replace hAl:=Lib.hid hAl
     replace hAm:=Lib.hid hAm
     clear hno hSx hcx htw hp
     have hpre:=Lib.hid (show Blk ((wr.alloc (.cells #[.int .i64 (k:Int)] 3)).alloc (.cells #[.pointer (ptrA (some p))] 42)) wr.heap.size #[.int .i64 (k:Int)] 3∧
       Blk ((wr.alloc (.cells #[.int .i64 (k:Int)] 3)).alloc (.cells #[.pointer (ptrA (some p))] 42)) (wr.heap.size + 1) #[.pointer (ptrA (some p))] 42∧
       Below wr.heap.size wr ((wr.alloc (.cells #[.int .i64 (k:Int)] 3)).alloc (.cells #[.pointer (ptrA (some p))] 42)) from
      ⟨(Blk.new _ _ _).alloc _,blk_newAtC (by simp) _ _,(new_below _ _).alloc (by simp) _⟩)
     go_upto_region 10 with (first | (refine wpList_v rfl (.pointer (some (aQ.add k))) (run_ixPl (k:=k) rfl rfl rfl hlt) ?_) | (refine wpList_load_v rfl 42 _ rfl (aQ.add k) rfl _ hlx.out ?_))
     have hgw:gM < wr.heap.size:=hM.out.lt
     generalize hg:wr.heap.size = g at *
     refine wp_world' (fun wx=>Blk wx g #[.int .i64 (k:Int)] 3∧Blk wx (g + 1) #[.pointer (ptrA (some p))] 42∧Below g wr wx) hpre.out ?_
     clear hpre
     rintro w9 ⟨hC9,hQ9,hb9⟩
     have hbw:=hb.trans (hb9.mono (by omega))
     have hM9:=hM.out.mod ((Mod.refl (fun _=>False) wr).after (by rw [hg]; exact hb9)) (fun h=>h)
     have ha9:=Lib.hid (hany2.out w9 hbw g (g + 1) hC9 hQ9)
     replace hM:=Lib.hid hM9
     replace hQ9:=Lib.hid hQ9
     replace hb:=Lib.hid hbw
     clear hany2 hC9 hb9 hM9 hbw hg hlx
     go_wp2_with fail
     refine ha9.out.mono ?_
     clear ha9
     rintro e w10 ⟨rfl,hb10⟩
     replace hb:=Lib.hid (hb.out.trans (hb10.mono (by have:=hM.out.lt; omega)))
     replace hM:=Lib.hid (hM.out.mod ((Mod.refl (fun _=>False) _).after hb10) (fun h=>h))
     have hl10:=Lib.hid (run_cellPl ((hQ9.out.mod ((Mod.refl (fun _=>False) _).after hb10) (fun h=>h)).cell (i:=0) (v:=.pointer (ptrA (some p))) rfl))
     clear hQ9 hb10
     cases tw with
     | true=>
      have hz:=Lib.hid (hbad.out rfl)
      have hbf:=Lib.hid (hL7.out.trans (hb.out.mono hgle.out))
      clear hnx hbad hRK hR13 hcn hcb hAl hAm hall hM
      go_wp2_with fail
      go_ret2
      exact dn_err hbf.out hz.out (by omega)
     | false=>
      have hno:=Lib.hid (hnx.out rfl)
      have hal:=hall.out w10 hb.out
      unfold AqPost at hal
      clear hnx hbad hR13 hall
      generalize allQ p.rows t = A at hal hcn hAl hAm
      obtain ⟨an,han⟩:∃ an,A.length = an:=⟨_,rfl⟩
      rw [han] at hal hAl
      replace han:=Lib.hid han
      replace hal:=Lib.hid hal
      go_wp2_with (refine wpList_load_v rfl 42 _ rfl ⟨g + 1,0,none⟩ rfl _ hl10.out ?_)
      refine hal.out.mono ?_
      clear hal hl10
      rintro e w11 ⟨⟨qA,dA,rfl,hdA,hEA,hbA⟩,hb11⟩
      have hgM10:=hM.out.lt
      have hM11:=hM.out.mod ((Mod.refl (fun _=>False) _).after hb11) (fun h=>h)
      have hbw:=hb.out.trans (hb11.mono (by omega))
      have hgA:∀ a,qA = some a→A.map inV ≠ []→¬ (a.block = gM):=fun a ha h0=>by
       obtain ⟨gA,CA,e,hle,_⟩:=hbA (fun e=>h0 (by rw [e]; rfl))
       rw [e] at ha
       cases ha
       simp only
       omega
      have hT0:=Lib.hid (show MapV Tryz.prog 3 3 w11 gM N ((A.take 0).foldl updM (cntM Q t k)) from hM11)
      have hgb:=Lib.hid (fun wx (hx:Mod (· = gM) w11 wx)=>hbw.trans (hx.below (by rw [← hgM.out]; exact hbw.size) (fun k hk=>by omega)))
      have hEw:=Lib.hid (fun wx (hx:Mod (· = gM) w11 wx)=>els_modP hEA hx hgA)
      clear hM hb hb11 hM11 hgA hbA hEA hdA hgM10
      go_wp2_with fail
      go_loopw [52] (fun s52 wx=>∃ j:Nat,j≤an∧s52 = .int .i64 j∧(∃ N,N≤1000 * k + j∧MapV Tryz.prog 3 3 wx gM N ((A.take j).foldl updM (cntM Q t k)))∧Mod (· = gM) w11 wx) (fun s52 _=>an - (intOf s52).toNat)
      case atStart=>exact ⟨0,Nat.zero_le _,rfl,⟨N,by omega,hT0.out⟩,Mod.refl _ _⟩
      case round=>
       clear hT0
       obtain ⟨j,hj,rfl,⟨N2,hN2,hM⟩,hmd⟩:=hrel
       have hAl1:=hAl.out
       by_cases hlj:j < an
       ·have hljI:(j:Int) < (an:Int):=by omega
        have hj0:(0:Int)≤(j:Int):=by omega
        have s3:IntKind.i64.wrap ((j:Int) + 1) = (j:Int) + 1:=IntWalk.i64_in _ (by omega)
        have hjA:j < A.length:=by rw [han.out]; exact hlj
        obtain ⟨aA,rfl⟩:=(hEw.out wr hmd).some_of (k:=j) (by simpa using hjA)
        have hcj:=(hEw.out wr hmd).cells aA rfl j (inV A[j]) 0 (.int .i64 A[j]) (by rw [List.getElem?_map,List.getElem?_eq_getElem hjA]; rfl) rfl
        rw [Nat.mul_one,Nat.add_zero] at hcj
        have hrr:=hAm.out A[j] (List.getElem_mem hjA)
        have hTj:(A.take (j + 1)).foldl updM (cntM Q t k) = updM ((A.take j).foldl updM (cntM Q t k)) A[j]:=by
         rw [List.take_succ_eq_append_getElem hjA,List.foldl_append]
         rfl
        have hcb2:=updM_bd (A.take j) (cntM Q t k) (1000 * k) hcb.out A[j]
        rw [List.length_take,han.out] at hcb2
        generalize A[j] = r at *
        generalize (A.take j).foldl updM (cntM Q t k) = mj at *
        have hwr:wf64 r:=by unfold wf64; omega
        have hlk:=Lib.hid (hM.get Tryz.underlying3 Tryz.underlying3 (t:=86) Tryz.underlying86 (by kernel_rfl) hwr)
        have hwv:wf64 ((mj r).getD 0 + 1):=by unfold wf64; omega
        obtain ⟨w13,hrun,hM13,hm13⟩:=hM.update Tryz.underlying3 Tryz.underlying3 (t:=86) Tryz.underlying86 (by unfold maxLen; omega) hwr hwv
        have hT13:=Lib.hid (show MapV Tryz.prog 3 3 w13 gM (N2 + 1) ((A.take (j + 1)).foldl updM (cntM Q t k)) from by rw [hTj]; exact hM13)
        have hmd13:=Lib.hid (hmd.trans hm13)
        have hlj2:=Lib.hid (run_i64D hcj)
        have s4:IntKind.i64.wrap ((mj r).getD 0 + 1) = (mj r).getD 0 + 1:=IntWalk.i64_in _ (by omega)
        generalize (mj r).getD 0 = cv at *
        replace hrun:=Lib.hid hrun
        clear hM hM13 hm13 hmd hTj hcj hwr hwv hcb2
        go_wp2_with (first | (refine wpList_v rfl (.pointer (some (aA.add j))) (run_ixIn (k:=j) rfl rfl rfl hlj) ?_) | (refine wpList_load_v rfl 3 _ rfl (aA.add j) rfl _ hlj2.out ?_) |
         (refine wpList_v rfl (.int .i64 cv) (run_lookV rfl rfl rfl hlk.out) ?_) | (refine wpList_sw rfl rfl (run_mapU rfl rfl rfl rfl hrun.out) ?_))
        go_roundw
        case rel=>exact ⟨j + 1,by omega,by simp,⟨N2 + 1,by omega,hT13.out⟩,hmd13.out⟩
        case measure=>simp [intOf]; omega
       ·obtain rfl:j = an:=by omega
        have hMk:=Lib.hid (show MapV Tryz.prog 3 3 wr gM N2 (cntM Q t (k + 1)) from by
         rw [hcn.out]
         rw [List.take_of_length_le (by rw [han.out]; omega)] at hM
         exact hM)
        have hbk:=Lib.hid (hgb.out wr hmd)
        clear hM hmd hgb hEw
        go_wp2_with fail
        go_roundw
        case rel=>exact ⟨k + 1,by omega,by simp,⟨N2,by omega,hMk.out⟩,hno,hbk.out⟩
        case measure=>simp [intOf]; omega
    ·obtain rfl:n29 = k:=by omega
     have htw0:(List.range Q.length).any (twiceAt Q) = false:=by
      rw [List.any_eq_false]
      intro c hc
      rw [hno.out c (by have:=List.mem_range.1 hc; have:=hn.out; omega)]
      decide
     have hdl:=Lib.hid (hRK.out htw0)
     clear hno htw0 hRK hR13
     have hSx:=hSb.out wr hb
     have hDl:=hSx.deal hat.out hnn.out (by rw [hn.out,hm.out]; omega)
     have hbx:=hSx.low
     have hk1:=hSx.box.cell (i:=1) rfl
     rw [hm.out] at hk1
     have hfin:=Lib.hid (show dlC Q t H = 0→DnPost28 B w t Q H (.returned (.tuple #[.pointer (some ⟨d,0,none⟩),.int .i64 0])) wr from fun h=>⟨hbx,.inr ⟨h,d,gP,c29,q32,c32,rfl,hDl,hge.1,hge.2,fun a ha h0=>by
      obtain ⟨gH,C,e,_,hle⟩:=hSx.hb h0
      rw [e] at ha
      cases ha
      exact hle⟩⟩)
     have hlpl:=Lib.hid (run_cellPs (hSx.b.cell (i:=0) rfl))
     have hdd:=hlpl.out
     rw [hn.out] at hdd
     replace hlpl:=Lib.hid hdd
     have hptr:=Lib.hid (fun i (hi:i < n29)=>(by
      obtain ⟨a2,ea2,hcx⟩:=pls_ptr hSx.q (by rw [hn.out]; exact hi:i < Q.length)
      cases ea2
      exact hcx:wr.cell? (aQ.add i) = some (.pointer (ptrA (Q.getD i none)))))
     have hown:=Lib.hid (fun r (hr:r < n32)=>(hDl.own (by rw [hm.out]; exact hr:r < H.length)))
     have his:=Lib.hid (fun c=>(by
      have:=dis_calls hDl c
      rw [List.length_map,hn.out] at this
      exact this:Calls Tryz.prog 33 #[.pointer (some ⟨d,0,none⟩),.int .i64 c] wr fun e w'=>e = .returned (.bool (decide (0≤c∧c < (n29:Int))))∧wr = w'))
     have hhas:=Lib.hid (fun i (hi:i < n29) (r:Nat) (hr:r≤64)=>(by
      have hiQ:i < Q.length:=by rw [hn.out]; exact hi
      have e:Q.getD i none = Q[i]:=by rw [List.getD_eq_getElem?_getD,List.getElem?_eq_getElem hiQ]; rfl
      have hmem:Q[i] ∈ Q:=List.getElem_mem hiQ
      cases hq:Q[i] with
      | none=>exact absurd hq (hnn.out _ hmem)
      | some p=>
       refine ⟨p,by rw [e,hq],?_⟩
       rw [e,hq]
       exact ((((hat.out p (by rw [← hq]; exact hmem)).below hbx).pst htl).has (r:Int) (by unfold wf64; omega)):
      ∃ p:Pc,Q.getD i none = some p∧Calls Tryz.prog 22 #[.pointer (some ⟨p.b,0,none⟩),.int .i64 (r:Int)] wr fun e w'=>e = .returned (.bool (hasB ((Q.getD i none).getD pc0) r))∧wr = w'))
     have hstp:=Lib.hid (fun r (hr:r < n32) (h0:holdK Q t H r = 0) (h1:holdE Q t H r ≠ 0)=>(by rw [hdl.out]; exact holdK_stop Q t H h0 h1 H.length (by rw [hm.out]; exact hr):dlC Q t H = holdE Q t H r))
     have hE:=Lib.hid (fun r=>(show holdE Q t H r = if ¬ (0≤H.getD r 0∧H.getD r 0 < (Q.length:Int))∨hasB ((Q.getD (H.getD r 0).toNat none).getD pc0) r = false then 12 else if 1 < ((cntM Q t Q.length (r:Int)).getD 0) then 13 else 0 from rfl))
     have hKs:=Lib.hid (fun r (h0:holdK Q t H r = 0)=>(by show (if holdK Q t H r ≠ 0 then _ else _) = _; rw [if_neg (fun h=>h h0)]:holdK Q t H (r + 1) = holdE Q t H r))
     have hK0:=Lib.hid (show holdK Q t H 0 = 0 from rfl)
     have hlast:=Lib.hid (show holdK Q t H n32 = 0→dlC Q t H = 0 from fun h=>by rw [hdl.out,hm.out]; exact h)
     have hMg:=Lib.hid (fun (r:Nat) (hr:r≤64)=>hM.get Tryz.underlying3 Tryz.underlying3 (t:=86) Tryz.underlying86 (by kernel_rfl) (i:=(r:Int)) (by unfold wf64; omega))
     have hQn:=hn.out
     rw [hQn] at hE
     generalize hkk:holdK Q t H = kk at *
     generalize hee:holdE Q t H = ee at *
     replace hbx:=Lib.hid hbx
     clear hQn hSx hDl hM hb hSb hkd7 hat hN hdl hkk hee hgM hgM8 hgle hnn hL7
     go_wp2_with fail
     go_loopw [67] (fun s67 wx=>∃ r:Nat,r≤n32∧s67 = .int .i64 r∧kk r = 0∧wx = wr) (fun s67 _=>n32 - (intOf s67).toNat)
     case atStart=>exact ⟨0,Nat.zero_le _,rfl,hK0.out,rfl⟩
     case round=>
      obtain ⟨r,hr,rfl,hkr,rfl⟩:=hrel
      by_cases hlr:r < n32
      ·have hlrI:(r:Int) < (n32:Int):=by omega
       have hr0:(0:Int)≤(r:Int):=by omega
       have s5:IntKind.i64.wrap ((r:Int) + 1) = (r:Int) + 1:=IntWalk.i64_in _ (by omega)
       obtain ⟨gH,rfl,hcr⟩:=hown.out r hlr
       have hlh:=Lib.hid (run_i64D hcr)
       have hEr:=hE.out r
       have hst:=hstp.out r hlr hkr
       have hsx:=hKs.out r hkr
       have hic:=Lib.hid (his.out (H.getD r 0))
       have hmr:=Lib.hid (hMg.out r (by omega))
       generalize H.getD r 0 = c at *
       generalize ee r = er at *
       by_cases hin:0≤c∧c < (n29:Int)
       ·rw [decide_eq_true hin] at hic
        obtain ⟨cn,rfl⟩:∃ cn:Nat,c = cn:=⟨c.toNat,by omega⟩
        rw [Int.toNat_natCast] at hEr
        have hcn:cn < n29:=by omega
        obtain ⟨p,hpq,hh⟩:=hhas.out cn hcn r (by omega)
        have hpc:=hptr.out cn hcn
        rw [hpq] at hpc
        have hlp:=Lib.hid (run_cellPl hpc)
        generalize hasB ((Q.getD cn none).getD pc0) r = hs at hEr hh
        generalize (cntM Q t n29 (r:Int)).getD 0 = cv at hEr hmr
        replace hh:=Lib.hid hh
        replace hEr:=Lib.hid hEr
        replace hst:=Lib.hid hst
        replace hsx:=Lib.hid hsx
        clear hpq hpc hcr hin
        go_wp2_with (first | (refine wpList_v rfl (.pointer (some ((⟨gH,0,none⟩:Addr).add r))) (run_ixIn (k:=r) rfl rfl rfl hlr) ?_) | (refine wpList_load_v rfl 3 _ rfl ((⟨gH,0,none⟩:Addr).add r) rfl _ hlh.out ?_))
        refine hic.out.mono ?_
        rintro e w2 ⟨rfl,rfl⟩
        clear hic
        go_wp2_with (first | (refine wpList_load_v rfl 30 _ rfl ⟨w.heap.size,0,none⟩ rfl _ hlpl.out ?_) | (refine wpList_v rfl (.pointer (some (aQ.add cn))) (run_ixPl (k:=cn) rfl rfl rfl hcn) ?_) | (refine wpList_load_v rfl 42 _ rfl (aQ.add cn) rfl _ hlp.out ?_))
        refine hh.out.mono ?_
        rintro e w2 ⟨rfl,rfl⟩
        clear hh
        cases hs with
        | false=>
         have he:=hEr.out
         rw [if_pos (.inr rfl)] at he
         have hz:=Lib.hid ((hst.out (by omega)).trans he)
         clear he hEr hst hsx hmr hfin hlast
         go_wp2_with fail
         go_ret2
         exact dn_err hbx.out hz.out (by omega)
        | true=>
         have he:=hEr.out
         rw [if_neg (fun h=>by rcases h with h | h; exact h ⟨by omega,by omega⟩; cases h)] at he
         by_cases hcv:1 < cv
         ·rw [if_pos hcv] at he
          have hz:=Lib.hid ((hst.out (by omega)).trans he)
          clear he hEr hst hsx hfin hlast
          go_wp2_with (refine wpList_v rfl (.int .i64 cv) (run_lookV rfl rfl rfl hmr.out) ?_)
          go_ret2
          exact dn_err hbx.out hz.out (by omega)
         ·rw [if_neg hcv] at he
          have hy:=Lib.hid (hsx.out.trans he)
          clear he hEr hst hsx
          go_wp2_with (refine wpList_v rfl (.int .i64 cv) (run_lookV rfl rfl rfl hmr.out) ?_)
          go_roundw
          case rel=>exact ⟨r + 1,by omega,by simp,hy.out,trivial⟩
          case measure=>simp [intOf]; omega
       ·rw [decide_eq_false hin] at hic
        rw [if_pos (.inl hin)] at hEr
        have hz:=Lib.hid ((hst (by omega)).trans hEr)
        clear hEr hst hsx hin hfin hlast hcr
        go_wp2_with (first | (refine wpList_v rfl (.pointer (some ((⟨gH,0,none⟩:Addr).add r))) (run_ixIn (k:=r) rfl rfl rfl hlr) ?_) | (refine wpList_load_v rfl 3 _ rfl ((⟨gH,0,none⟩:Addr).add r) rfl _ hlh.out ?_))
        refine hic.out.mono ?_
        rintro e w2 ⟨rfl,rfl⟩
        clear hic
        go_wp2_with fail
        go_ret2
        exact dn_err hbx.out hz.out (by omega)
      ·obtain rfl:n32 = r:=by omega
       have hz:=Lib.hid (hfin.out (hlast.out hkr))
       clear hfin hlast hstp hE hKs hK0 hkr
       go_wp2_with fail
       go_ret2
       exact hz.out
end
end
end Go.Proofs.YtkaoflndbcfodaaGreat
