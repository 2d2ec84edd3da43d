/-
  The row 'DealNew': a pack of the texts Opn Dr Fs Fc Ro Rm Rou, pruned to what the row uses.
-/
import Derived.Test.YtkaoflndbcfodaaGreatDealNewQ12
import Derived.Deep.Slices
import Derived.Deep.Fields
namespace Go.Proofs.YtkaoflndbcfodaaGreat
set_option maxHeartbeats 8000000
set_option maxRecDepth 100000
section
section
open Go.ChangeShapes Go.WideShapes Go.ChangeAt Go.RowKit
open Go.Deep (open_slice)
theorem take1 {l:List Value} {i:Nat} {v:Value} (h:(l.drop i).take 1 = [v]):l[i]? = some v:=by
 have e:((l.drop i).take 1)[0]? = some v:=by rw [h]; rfl
 rw [List.getElem?_take_of_lt (by omega),List.getElem?_drop,Nat.add_zero] at e
 exact e
theorem u8_of {n:Int} (h:(Lit.int .u8 n).wf = true):0≤n∧n < 256:=by
 have:0≤n∧n≤255:=by simpa [Lit.wf,IntKind.min,IntKind.max,IntKind.signed,IntKind.bits] using h
 omega
theorem part_at {l:List Value} {o n i:Nat} {v:Value} (h:((l.drop o).take n)[i]? = some v):l[o + i]? = some v:=by
 have hi:i < n:=by
  have:=(List.getElem?_eq_some_iff.1 h).1
  rw [List.length_take] at this
  omega
 rw [List.getElem?_take_of_lt hi,List.getElem?_drop] at h
 exact h
section
variable {H:Type} {enc:TypeId × Value→H} {P:Program} {w:World} {base:Nat} {spare:Nat→Bool} {held:Bool} {fuel:Nat}
theorem fld_of {t:TypeId} {fs:Array Field} {cs:List Value} {x:DataW H × List MemPlace} (ht:P.underlying t = some (.struct fs)) (h:DataW.trod enc P w base spare held fuel t cs = some x) (i:Nat) (f:Field) (hf:fs[i]? = some f):
  ∃ n y,DataW.trod enc P w base spare held n f.type ((cs.drop f.offset).take (P.cellsOf f.type)) = some y:=by
 obtain ⟨xs,n,_,_,_,hlen,hx⟩:=DataW.trod_struct ht h
 have hi:i < xs.length:=by rw [hlen]; exact (Array.getElem?_eq_some_iff.1 hf).1
 have:=hx i f hf
 rw [List.getElem?_eq_getElem hi] at this
 exact ⟨n,_,this⟩
theorem fld_int {t:TypeId} {fs:Array Field} {cs:List Value} {x:DataW H × List MemPlace} {k:IntKind} (ht:P.underlying t = some (.struct fs)) (h:DataW.trod enc P w base spare held fuel t cs = some x) (i:Nat) (f:Field) (hf:fs[i]? = some f) (hc:P.cellsOf f.type = 1) (hu:P.underlying f.type = some (.int k)):
  ∃ z,cs[f.offset]? = some (.int k z)∧(Lit.int k z).wf = true:=by
 obtain ⟨n,y,h1⟩:=fld_of ht h i f hf
 rw [hc] at h1
 obtain ⟨z,e,_,wz⟩:=DataW.trod_int hu h1
 exact ⟨z,take1 e,wz⟩
structure ElsR (w:World) (p:Option Addr) (n:Nat) (R:List (List Value)):Prop where
 nil:p = none→R = []
 len:∀ x ∈ R,x.length = n
 cells:∀ a,p = some a→∀ k x j v,R[k]? = some x→x[j]? = some v→w.cell? (a.add (k * n + j)) = some v
theorem open_rows {α:Type} (d:α) (row:α→List Value) (Pd:α→Prop) {n:Nat} (hrow:∀ a,(row a).length = n) {t e:TypeId} (ht:P.underlying t = some (.slice e)) (hC:P.cellsOf e = n)
  (elt:∀ (fuel:Nat) (cs:List Value) (x:DataW H × List MemPlace),DataW.trod enc P w base (fun _=>true) held fuel e cs = some x→∃ y,Pd y∧∀ (j:Nat) (v:Value),(row y)[j]? = some v→cs[j]? = some v)
  {cs:List Value} {x:DataW H × List MemPlace} (h:DataW.trod enc P w base (fun _=>true) held fuel t cs = some x):
  ∃ (p:Option Addr) (L:List α) (cap:Nat),cs = [.slice p L.length cap]∧ElsR w p n (L.map row)∧L.length≤cap∧cap≤9223372036854775807∧∀ y ∈ L,Pd y:=by
 rcases open_slice ht h with ⟨rfl,_⟩ | ⟨a,len,cap,m,n',D,Pl,rfl,_,hl,hm,hmm,_,hi⟩
 ·exact ⟨none,[],0,rfl,⟨fun _=>rfl,(fun x hx=>by cases hx),fun a ha=>by cases ha⟩,Nat.le_refl _,by omega,(fun x hx=>by cases hx)⟩
 ·rw [if_pos rfl] at hmm
  subst hmm
  have key:∀ i,∃ y:α,i < m→Pd y∧∀ (j:Nat) (v:Value),(row y)[j]? = some v→w.cell? ((a.add (i * n)).add j) = some v:=by
   intro i
   by_cases hin:i < m
   ·obtain ⟨cs',h1,h2⟩:=hi i hin
    rw [hC] at h1
    obtain ⟨y,hy,hr⟩:=elt _ _ _ h2
    obtain ⟨_,hcl,hat⟩:=World.cells?_some h1
    refine ⟨y,fun _=>⟨hy,fun j v hj=>?_⟩⟩
    have hjn:j < n:=by
     have:=(List.getElem?_eq_some_iff.1 hj).1
     rwa [hrow] at this
    rw [hat j hjn]
    exact hr j v hj
   ·exact ⟨d,fun h=>absurd h hin⟩
  obtain ⟨F,hF⟩:=Classical.axiomOfChoice key
  have hlen:((List.range len).map F).length = len:=by simp
  refine ⟨some a,(List.range len).map F,m,by rw [hlen],⟨(fun e=>by cases e),?_,?_⟩,by rw [hlen]; exact hl,by unfold maxLen at hm; omega,?_⟩
  ·intro y hy
   obtain ⟨z,_,rfl⟩:=List.mem_map.1 hy
   exact hrow z
  ·intro a' ha k x j v hk hj
   cases ha
   rw [List.map_map,List.getElem?_map] at hk
   simp only [Option.map_eq_some_iff,Function.comp_apply] at hk
   obtain ⟨i,hi2,rfl⟩:=hk
   obtain ⟨hlt,e⟩:=List.getElem?_eq_some_iff.1 hi2
   rw [List.length_range] at hlt
   rw [List.getElem_range] at e
   subst e
   have:=(hF k (by omega)).2 j v hj
   rwa [addr_add_add] at this
  ·intro y hy
   obtain ⟨i,hi',rfl⟩:=List.mem_map.1 hy
   exact (hF i (by have:=List.mem_range.1 hi'; omega)).1
end
section
variable {H:Type} {enc:TypeId × Value→H} {w:World} {base fuel:Nat} {held:Bool} {cs:List Value} {x:DataW H × List MemPlace}
theorem c_int:Tryz.prog.cellsOf 3 = 1:=by kernel_rfl
def rqMk (L:List Int):Rq:=fun i=>L.getD i 0
abbrev Ve:=Nat→Int
def veR (v:Ve):List Value:=[.int .i64 (v 0),.int .i64 (v 1),.int .i64 (v 2),.int .i64 (v 3),.int .i64 (v 4)]
end
section
variable {H:Type} {enc:TypeId × Value→H} {W:World} {base:Nat} {v:Value} {d:DataW H} {p:List MemPlace}
theorem agg_eq {C:Array Value} {R:List Value} (hs:C.size = R.length) (h:∀ (j:Nat) (v:Value),R[j]? = some v→C.toList[j]? = some v):C = R.toArray:=by
 apply Array.ext
 ·simpa using hs
 ·intro i h1 h2
  have:=h i R[i] (List.getElem?_eq_getElem (by simpa using h2))
  simp only [Array.getElem?_toList,Array.getElem?_eq_getElem h1,Option.some.injEq] at this
  simpa using this
end
end
end
section
section
open Go.RowKit
def u8V (b:Int):List Value:=[.int .u8 b]
def nx (B:List Int) (k m:Int):Int:=if B = [] then k % m else (B.getD (k % (B.length:Int)).toNat 0 + k / (B.length:Int)) % m
theorem nx_bd (B:List Int) (k:Int) {m:Int} (hm:0 < m):0≤nx B k m∧nx B k m < m:=by
 unfold nx
 split
 ·exact ⟨Int.emod_nonneg _ (by omega),Int.emod_lt_of_pos _ hm⟩
 ·exact ⟨Int.emod_nonneg _ (by omega),Int.emod_lt_of_pos _ hm⟩
def drC (p:Option Addr) (c:Nat) (B:List Int) (n wd k:Int):Array Value:=#[.slice p B.length c,.int .u8 n,.int .u8 wd,.int .i64 k]
structure DrS (w:World) (g:Nat) (p:Option Addr) (c:Nat) (B:List Int) (n wd k:Int):Prop where
 blk:Blk w g (drC p c B n wd k) 24
 els:∀ i b,B[i]? = some b→∃ a,p = some a∧a.block ≠ g∧w.cell? (a.add i) = some (.int .u8 b)
 rng:∀ b ∈ B,0≤b∧b < 256
 len:B.length≤9223372036854775807
 nb:0≤n∧n < 256
 wb:0≤wd∧wd < 256
theorem DrS.mod {w w':World} {g:Nat} {p:Option Addr} {c:Nat} {B:List Int} {n wd k:Int} (h:DrS w g p c B n wd k) (hm:Mod (fun _=>False) w w'):DrS w' g p c B n wd k:=
 ⟨h.blk.mod hm (fun h=>h),fun i b hb=>by
  obtain ⟨a,ha,hg,hc⟩:=h.els i b hb
  exact ⟨a,ha,hg,hm.cell_of (fun h=>h) hc⟩,h.rng,h.len,h.nb,h.wb⟩
theorem DrS.put {w:World} {g:Nat} {p:Option Addr} {c:Nat} {B:List Int} {n wd k:Int} (h:DrS w g p c B n wd k) (k':Int):DrS (w.setCell ⟨g,3,none⟩ (.int .i64 k')) g p c B n wd k':=
 ⟨h.blk.set 3 _,fun i b hb=>by
  obtain ⟨a,ha,hg,hc⟩:=h.els i b hb
  exact ⟨a,ha,hg,((Mod.refl (· = g) _).setCell (p:=⟨g,3,none⟩) (fun _=>rfl) _).cell_of (by rw [add_block]; exact hg) hc⟩,h.rng,h.len,h.nb,h.wb⟩
theorem DrS.of {w w':World} {g:Nat} {p:Option Addr} {c:Nat} {B:List Int} {n wd k k':Int} (h:DrS w g p c B n wd k) (hm:Mod (· = g) w w') (hb:Blk w' g (drC p c B n wd k') 24):DrS w' g p c B n wd k':=
 ⟨hb,fun i b hb=>by
  obtain ⟨a,ha,hg,hc⟩:=h.els i b hb
  exact ⟨a,ha,hg,hm.cell_of (by rw [add_block]; exact hg) hc⟩,h.rng,h.len,h.nb,h.wb⟩
theorem run_remD {ρ:Operand→Value} {o:Oper} {w:World} {x y:Operand} {n m:Int} {r:Nat} (ho:o.op = .binOp .rem 3 x y 3) (hx:ρ x = .int .i64 n) (hy:ρ y = .int .i64 m) (hn:0≤n) (hm:0 < m) (hr:(r:Int) = n % m) (hb:m≤9223372036854775807):
  (execOp ρ o).run Tryz.prog w = .ok (.value (.int .i64 r)) w:=by
 have h0:¬ m = 0:=by omega
 have h1:n.tmod m = n % m:=Int.tmod_eq_emod_of_nonneg hn
 have h2:0≤n % m:=Int.emod_nonneg _ h0
 have h3:n % m < m:=Int.emod_lt_of_pos _ hm
 have h4:IntKind.i64.wrap (n % m) = n % m:=IntWalk.i64_in _ (by omega)
 unfold execOp
 simp only [ho,hx,hy]
 go_simp
section
variable {ρ:Operand→Value} {o:Oper} {w:World} {x y:Operand}
theorem run_ixB {a:Addr} {n c k:Nat} (ho:o.op = .indexAddr 22 x y) (hx:ρ x = .slice (some a) n c) (hy:ρ y = .int .i64 k) (hk:k < n):(execOp ρ o).run Tryz.prog w = .ok (.value (.pointer (some (a.add k)))) w:=by
 have h0:(0:Int)≤(k:Int):=by omega
 have h1:(k:Int) < (n:Int):=by omega
 have h2:((k:Int)).toNat = k:=by omega
 unfold execOp
 simp only [ho,hx,hy]
 go_simp
theorem run_quo64 {n m q:Int} (ho:o.op = .binOp .quo 3 x y 3) (hx:ρ x = .int .i64 n) (hy:ρ y = .int .i64 m) (hn:0≤n) (hm:0 < m) (hq:q = n / m) (hb:n≤9223372036854775807):
  (execOp ρ o).run Tryz.prog w = .ok (.value (.int .i64 q)) w:=by
 subst hq
 have h1:0≤n / m:=Int.ediv_nonneg hn (by omega)
 have h2:n / m≤n:=Int.ediv_le_self _ hn
 have h3:IntKind.i64.wrap (n / m) = n / m:=IntWalk.i64_in _ (by omega)
 have hm0:¬ m = 0:=by omega
 have h4:n.tdiv m = n / m:=Int.tdiv_eq_ediv_of_nonneg hn
 unfold execOp
 simp only [ho,hx,hy]
 go_simp
end
theorem next7_calls (g:Nat) (p:Option Addr) (c:Nat) (B:List Int) (n wd k m:Int) (w:World) (hD:DrS w g p c B n wd k) (hk:0≤k∧k≤1000000) (hm:1≤m∧m≤1000000):
  Calls Tryz.prog 75 #[.pointer (some ⟨g,0,none⟩),.int .i64 m] w fun e w'=>e = .returned (.int .i64 (nx B (k + 1) m))∧DrS w' g p c B n wd (k + 1)∧Mod (· = g) w w':=by
 have hX:nx B (k + 1) m = if B = [] then (k + 1) % m else (B.getD ((k + 1) % (B.length:Int)).toNat 0 + (k + 1) / (B.length:Int)) % m:=rfl
 generalize nx B (k + 1) m = X at hX ⊢
 replace hX:=Lib.hid hX
 have k3:=hD.blk.cell (i:=3) (v:=.int .i64 k) rfl
 have f3:=hD.blk.froz 3
 have hP:=hD.put (k + 1)
 have hM:Mod (· = g) w (w.setCell ⟨g,3,none⟩ (.int .i64 (k + 1))):=(Mod.refl (· = g) w).setCell (p:=⟨g,3,none⟩) (fun _=>rfl) _
 have s1:IntKind.i64.wrap (k + 1) = k + 1:=IntWalk.i64_in _ (by omega)
 replace hP:=Lib.hid hP
 replace hM:=Lib.hid hM
 have hlen:=hD.len
 clear hD
 go_enter Tryz.func75,Tryz.ntmps75
 go_upto_region 2 with fail
 refine wp_world' (fun wx=>DrS wx g p c B n wd (k + 1)∧Mod (· = g) w wx) ⟨hP.out,hM.out⟩ ?_
 clear hP hM k3 f3
 rintro w1 ⟨hP,hM⟩
 have k0:=hP.blk.cell (i:=0) (v:=.slice p B.length c) rfl
 have k3:=hP.blk.cell (i:=3) (v:=.int .i64 (k + 1)) rfl
 by_cases h0:B = []
 ·subst h0
  obtain rfl:X = (k + 1) % m:=by rw [hX.out,if_pos rfl]
  replace hP:=Lib.hid hP
  replace hM:=Lib.hid hM
  clear hX
  go_wp2_with fail
  go_ret
  exact ⟨rfl,hP.out,hM.out⟩
 ·have hl0:0 < B.length:=List.length_pos_iff.2 h0
  have hlb:(B.length == 0) = false:=beq_eq_false_iff_ne.2 (by omega)
  obtain ⟨r,hr⟩:∃ r:Nat,(r:Int) = (k + 1) % (B.length:Int):=⟨((k + 1) % (B.length:Int)).toNat,Int.toNat_of_nonneg (Int.emod_nonneg _ (by omega))⟩
  have hrl:r < B.length:=by have:=Int.emod_lt_of_pos (k + 1) (show (0:Int) < B.length by omega); omega
  obtain ⟨a,rfl,_,hcell⟩:=hP.els r B[r] (List.getElem?_eq_getElem hrl)
  have hbr:=hP.rng _ (List.getElem_mem hrl)
  obtain ⟨q,hq⟩:∃ q:Int,q = (k + 1) / (B.length:Int):=⟨_,rfl⟩
  have hq0:0≤q:=by rw [hq]; exact Int.ediv_nonneg (by omega) (by omega)
  have hq1:q≤k + 1:=by rw [hq]; exact Int.ediv_le_self _ (by omega)
  have hX2:Hid (X = (B[r] + q) % m):=Lib.hid (by
   rw [hX.out,if_neg h0,← hq]
   congr 2
   have e:((k + 1) % (B.length:Int)).toNat = r:=by omega
   rw [e,List.getD_eq_getElem?_getD,List.getElem?_eq_getElem hrl]
   rfl)
  generalize B[r] = b at *
  have s2:IntKind.i64.wrap b = b:=IntWalk.i64_in _ (by omega)
  have s3:IntKind.i64.wrap (b + q) = b + q:=IntWalk.i64_in _ (by omega)
  have hs0:0≤b + q:=by omega
  replace hP:=Lib.hid hP
  replace hM:=Lib.hid hM
  replace hr:=Lib.hid hr
  replace hq:=Lib.hid hq
  clear hX h0
  go_upto_region 4 with fail
  refine wp_region_quiet_lit (by kernel_rfl) (by kernel_rfl) ?_
  iterate 13 (go_big_quiet_step (fail))
  refine wpQuiet_v (by kernel_rfl) (.int .i64 r) (by rintro _ ⟨z,rfl⟩; exact run_remD rfl rfl rfl (by omega) (by omega) hr.out (by omega)) ?_
  simp only [Act.put,List.setIfInBounds_toArray,List.set_cons_succ,List.set_cons_zero]
  refine wpQuiet_v (by kernel_rfl) (.pointer (some (a.add r))) (by rintro _ ⟨z,rfl⟩; exact run_ixB rfl rfl rfl hrl) ?_
  simp only [Act.put,List.setIfInBounds_toArray,List.set_cons_succ,List.set_cons_zero]
  iterate 11 (go_big_quiet_step (fail))
  refine wpQuiet_v (by kernel_rfl) (.int .i64 q) (by rintro _ ⟨z,rfl⟩; exact run_quo64 rfl rfl rfl (by omega) (by omega) hq.out (by omega)) ?_
  simp only [Act.put,List.setIfInBounds_toArray,List.set_cons_succ,List.set_cons_zero]
  repeat (go_big_quiet_step (fail))
  refine wpQuiet_nil ?_
  rintro _ ⟨z,rfl⟩
  go_wp2_with fail
  go_ret
  exact ⟨by rw [hX2.out]; rfl,hP.out.mod ((Mod.refl (fun _=>False) _).drewN _),hM.out.drewN _⟩
theorem dplace_calls (g:Nat) (p:Option Addr) (c:Nat) (B:List Int) (n wd k:Int) (w:World) (hD:DrS w g p c B n wd k) (hk:0≤k∧k≤900000):
  Calls Tryz.prog 74 #[.pointer (some ⟨g,0,none⟩)] w fun e w'=>e = .returned (.agg #[.int .i64 (500 + nx B (k + 1) 20),.int .i64 (500 + nx B (k + 2) 20)])∧DrS w' g p c B n wd (k + 2)∧Mod (· = g) w w':=by
 have hbk:=hD.blk.lt
 have h1:=nx_bd B (k + 1) (m:=20) (by omega)
 have h2:=nx_bd B (k + 2) (m:=20) (by omega)
 have hn1:=Lib.hid (fun wx (h:DrS wx g p c B n wd k)=>next7_calls g p c B n wd k 20 wx h (by omega) (by omega))
 have hn2:=Lib.hid (fun wx (h:DrS wx g p c B n wd (k + 1))=>next7_calls g p c B n wd (k + 1) 20 wx h (by omega) (by omega))
 rw [show k + 1 + 1 = k + 2 by omega] at hn2
 generalize nx B (k + 1) 20 = a1 at *
 generalize nx B (k + 2) 20 = a2 at *
 have hD0:=Lib.hid hD
 replace hD:=Lib.hid (hD.mod ((Mod.refl (fun _=>False) w).alloc (.cells #[.int .i64 0,.int .i64 0] 53)))
 go_enter Tryz.func74,Tryz.ntmps74
 go_upto_region 1 with fail
 refine wp_world' (fun wx=>Blk wx w.heap.size #[.int .i64 0,.int .i64 0] 53∧DrS wx g p c B n wd k∧Mod (· = g) w wx) ⟨Blk.new _ _ _,hD.out,(Mod.refl _ _).alloc _⟩ ?_
 clear hD
 rintro w1 ⟨hB,hD,hM⟩
 go_wp2_with fail
 refine (hn1.out _ hD).mono ?_
 rintro e w2 ⟨rfl,hD2,hM2⟩
 have hB2:=hB.mod hM2 (by omega)
 replace hM2:=hM.trans hM2
 clear hn1 hB hD hM
 go_wp2_with fail
 refine (hn2.out _ hD2).mono ?_
 rintro e w3 ⟨rfl,hD3,hM3⟩
 have hB3:=Lib.hid (hB2.mod hM3 (by omega))
 replace hM3:=Lib.hid (hM2.trans hM3)
 replace hD3:=Lib.hid hD3
 clear hn2 hB2 hD2 hM2
 go_wp2_with (refine wpList_store_row rfl 53 _ _ rfl rfl w.heap.size rfl _ #[.int .i64 (500 + a1),.int .i64 (500 + a2)] _ hB3.out rfl rfl (pair_one _ _) (pl_size _ _) ?_; intro w6 hB6 hM6)
 have hM7:=Lib.hid (hM3.out.step hM6 (fun r h1 h2=>by omega))
 have hD6:=Lib.hid (hD0.out.of hM7.out (hD3.out.blk.mod hM6 (by omega)))
 exact bodyPost_ret (res_cell1 Tryz.results74 rfl (run_load_row' (P:=Tryz.prog) w6 _ 53 _ 53 _ hB6 Tryz.underlying53 rfl (pl_size _ _))) rfl ⟨rfl,hD6.out,hM7.out⟩
def wideI (wd:Int):Int:=[400,200,90,40].getD (wd % 4).toNat 0
theorem wideI_bd (wd:Int):0≤wideI wd∧wideI wd≤400:=by
 unfold wideI
 have h1:=Int.emod_nonneg wd (show (4:Int) ≠ 0 by omega)
 have h2:=Int.emod_lt_of_pos wd (show (0:Int) < 4 by omega)
 obtain ⟨r,hr⟩:=Int.eq_ofNat_of_zero_le h1
 rw [hr,Int.toNat_natCast]
 match r with
 | 0=>decide
 | 1=>decide
 | 2=>decide
 | 3=>decide
 | r + 4=>omega
def drR (B:List Int) (wd k fr:Int):Rq:=rqMk [500 + nx B (k + 3) 20,500 + nx B (k + 4) 20,500 + nx B (k + 5) 20,500 + nx B (k + 6) 20,fr + nx B (k + 1) 40,fr + nx B (k + 1) 40 + wideI wd,
 fr + nx B (k + 1) 40 + nx B (k + 2) 60,fr + nx B (k + 1) 40 + nx B (k + 2) 60 + wideI wd + 30,1 + nx B (k + 7) 9,nx B (k + 8) 4]
theorem run_ixI8 {ρ:Operand→Value} {o:Oper} {w:World} {x y:Operand} {a:Addr} {n c k:Nat} {z:Int} (ho:o.op = .indexAddr 35 x y) (hx:ρ x = .slice (some a) n c) (hy:ρ y = .int .u8 z) (hz:(k:Int) = z) (hk:k < n):
  (execOp ρ o).run Tryz.prog w = .ok (.value (.pointer (some (a.add k)))) w:=by
 subst hz
 have h0:(0:Int)≤(k:Int):=by omega
 have h1:(k:Int) < (n:Int):=by omega
 have h2:((k:Int)).toNat = k:=by omega
 unfold execOp
 simp only [ho,hx,hy]
 go_simp
theorem drequest_calls (g:Nat) (p:Option Addr) (c:Nat) (B:List Int) (n wd k fr:Int) (w:World) (hD:DrS w g p c B n wd k) (hk:0≤k∧k≤100000) (hf:0≤fr∧fr≤100000):
  Calls Tryz.prog 73 #[.pointer (some ⟨g,0,none⟩),.int .i64 fr] w fun e w'=>e = .returned (.agg (rqV (drR B wd k fr)).toArray)∧DrS w' g p c B n wd (k + 8)∧Mod (· = g) w w':=by
 have hX:drR B wd k fr = rqMk [500 + nx B (k + 3) 20,500 + nx B (k + 4) 20,500 + nx B (k + 5) 20,500 + nx B (k + 6) 20,fr + nx B (k + 1) 40,fr + nx B (k + 1) 40 + wideI wd,
  fr + nx B (k + 1) 40 + nx B (k + 2) 60,fr + nx B (k + 1) 40 + nx B (k + 2) 60 + wideI wd + 30,1 + nx B (k + 7) 9,nx B (k + 8) 4]:=rfl
 have hbk:=hD.blk.lt
 have hwd:=hD.wb
 have h1:=nx_bd B (k + 1) (m:=40) (by omega)
 have h2:=nx_bd B (k + 2) (m:=60) (by omega)
 have h3:=nx_bd B (k + 3) (m:=20) (by omega)
 have h4:=nx_bd B (k + 4) (m:=20) (by omega)
 have h5:=nx_bd B (k + 5) (m:=20) (by omega)
 have h6:=nx_bd B (k + 6) (m:=20) (by omega)
 have h7:=nx_bd B (k + 7) (m:=9) (by omega)
 have h8:=nx_bd B (k + 8) (m:=4) (by omega)
 have hw:=wideI_bd wd
 have hn1:=Lib.hid (fun wx (h:DrS wx g p c B n wd k)=>next7_calls g p c B n wd k 40 wx h (by omega) (by omega))
 have hn2:=Lib.hid (fun wx (h:DrS wx g p c B n wd (k + 1))=>next7_calls g p c B n wd (k + 1) 60 wx h (by omega) (by omega))
 have hn3:=Lib.hid (fun wx (h:DrS wx g p c B n wd (k + 2))=>dplace_calls g p c B n wd (k + 2) wx h (by omega))
 have hn4:=Lib.hid (fun wx (h:DrS wx g p c B n wd (k + 4))=>dplace_calls g p c B n wd (k + 4) wx h (by omega))
 have hn5:=Lib.hid (fun wx (h:DrS wx g p c B n wd (k + 6))=>next7_calls g p c B n wd (k + 6) 9 wx h (by omega) (by omega))
 have hn6:=Lib.hid (fun wx (h:DrS wx g p c B n wd (k + 7))=>next7_calls g p c B n wd (k + 7) 4 wx h (by omega) (by omega))
 rw [show k + 1 + 1 = k + 2 by omega] at hn2
 rw [show k + 2 + 1 = k + 3 by omega,show k + 2 + 2 = k + 4 by omega] at hn3
 rw [show k + 4 + 1 = k + 5 by omega,show k + 4 + 2 = k + 6 by omega] at hn4
 rw [show k + 6 + 1 = k + 7 by omega] at hn5
 rw [show k + 7 + 1 = k + 8 by omega] at hn6
 have hwr:∃ r:Nat,(r:Int) = wd % 4∧r < 4∧∀ w:World,(w.alloc (.cells #[.int .i64 400,.int .i64 200,.int .i64 90,.int .i64 40] 3)).cell? ((⟨w.heap.size,0,none⟩:Addr).add r) = some (.int .i64 (wideI wd)):=by
  have e1:=Int.emod_nonneg wd (show (4:Int) ≠ 0 by omega)
  have e2:=Int.emod_lt_of_pos wd (show (0:Int) < 4 by omega)
  obtain ⟨r,hr⟩:=Int.eq_ofNat_of_zero_le e1
  have hr4:r < 4:=by omega
  refine ⟨r,hr.symm,hr4,fun w=>?_⟩
  unfold wideI
  rw [hr,Int.toNat_natCast]
  clear hr e1 e2
  have hB:=Blk.new w #[.int .i64 400,.int .i64 200,.int .i64 90,.int .i64 40] 3
  rw [show (⟨w.heap.size,0,none⟩:Addr).add r = ⟨w.heap.size,r,none⟩ from by unfold Addr.add; split <;> simp_all]
  match r with
  | 0=>exact hB.cell rfl
  | 1=>exact hB.cell rfl
  | 2=>exact hB.cell rfl
  | 3=>exact hB.cell rfl
  | r + 4=>omega
 obtain ⟨r,hr,hr4,hrc⟩:=hwr
 generalize wideI wd = wi at *
 generalize nx B (k + 1) 40 = a1 at *
 generalize nx B (k + 2) 60 = a2 at *
 generalize nx B (k + 3) 20 = a3 at *
 generalize nx B (k + 4) 20 = a4 at *
 generalize nx B (k + 5) 20 = a5 at *
 generalize nx B (k + 6) 20 = a6 at *
 generalize nx B (k + 7) 9 = a7 at *
 generalize nx B (k + 8) 4 = a8 at *
 generalize drR B wd k fr = X at *
 replace hX:=Lib.hid hX
 replace hr:=Lib.hid hr
 replace hrc:=Lib.hid hrc
 have hD0:=Lib.hid hD
 obtain ⟨Z,hZ⟩:∃ Z:Array Value,Z = #[.int .i64 0,.int .i64 0,.int .i64 0,.int .i64 0,.int .i64 0,.int .i64 0,.int .i64 0,.int .i64 0,.int .i64 0,.int .i64 0]:=⟨_,rfl⟩
 have hZs:Z.size = 10:=by rw [hZ]; rfl
 replace hD:=Lib.hid (hD.mod ((Mod.refl (fun _=>False) w).alloc (.cells Z 55)))
 go_enter Tryz.func73,Tryz.ntmps73
 go_upto_region 1 with fail
 rw [← hZ]
 refine wp_world' (fun wx=>Blk wx w.heap.size Z 55∧DrS wx g p c B n wd k∧Mod (· = g) w wx) ⟨Blk.new _ _ _,hD.out,(Mod.refl _ _).alloc _⟩ ?_
 clear hD hZ
 rintro w1 ⟨hB,hD,hM⟩
 have k2:=(hD.blk.alloc (.cells #[.int .i64 400,.int .i64 200,.int .i64 90,.int .i64 40] 3)).cell (i:=2) (v:=.int .u8 wd) rfl
 have hrl:=Lib.hid (run_i64 (hrc.out w1))
 have hD1:=Lib.hid (hD.mod ((Mod.refl (fun _=>False) w1).alloc (.cells #[.int .i64 400,.int .i64 200,.int .i64 90,.int .i64 40] 3)))
 have hB1:=Lib.hid (hB.alloc (.cells #[.int .i64 400,.int .i64 200,.int .i64 90,.int .i64 40] 3))
 have hM1:=Lib.hid (hM.alloc (.cells #[.int .i64 400,.int .i64 200,.int .i64 90,.int .i64 40] 3))
 clear hrc hD hB hM
 go_upto_region 2 with (first | (refine wpList_v rfl (.pointer (some ((⟨w1.heap.size,0,none⟩:Addr).add r))) (run_ixI8 rfl rfl rfl hr.out hr4) ?_) | (refine wpList_load_v rfl 3 _ rfl ((⟨w1.heap.size,0,none⟩:Addr).add r) rfl _ hrl.out ?_))
 refine wp_world' (fun wx=>Blk wx w.heap.size Z 55∧DrS wx g p c B n wd k∧Mod (· = g) w wx) ⟨hB1.out,hD1.out,hM1.out⟩ ?_
 clear hD1 hB1 hM1 k2 hrl hr
 rintro w2 ⟨hB,hD,hM⟩
 go_wp2_with fail
 refine (hn1.out _ hD).mono ?_
 rintro e w3 ⟨rfl,hD3,hM3⟩
 replace hB:=Lib.hid (hB.mod hM3 (by omega))
 replace hM:=Lib.hid (hM.trans hM3)
 clear hn1 hD hM3
 go_wp2_with fail
 refine (hn2.out _ hD3).mono ?_
 rintro e w4 ⟨rfl,hD4,hM4⟩
 replace hB:=Lib.hid (hB.out.mod hM4 (by omega))
 replace hM:=Lib.hid (hM.out.trans hM4)
 clear hn2 hD3 hM4
 go_wp2_with fail
 refine (hn3.out _ hD4).mono ?_
 rintro e w5 ⟨rfl,hD5,hM5⟩
 replace hB:=Lib.hid (hB.out.mod hM5 (by omega))
 replace hM:=Lib.hid (hM.out.trans hM5)
 clear hn3 hD4 hM5
 go_wp2_with fail
 refine (hn4.out _ hD5).mono ?_
 rintro e w6 ⟨rfl,hD6,hM6⟩
 replace hB:=Lib.hid (hB.out.mod hM6 (by omega))
 replace hM:=Lib.hid (hM.out.trans hM6)
 clear hn4 hD5 hM6
 go_wp2_with fail
 refine (hn5.out _ hD6).mono ?_
 rintro e w7 ⟨rfl,hD7,hM7⟩
 replace hB:=Lib.hid (hB.out.mod hM7 (by omega))
 replace hM:=Lib.hid (hM.out.trans hM7)
 clear hn5 hD6 hM7
 go_wp2_with fail
 refine (hn6.out _ hD7).mono ?_
 rintro e w8 ⟨rfl,hD8,hM8⟩
 replace hB:=Lib.hid (hB.out.mod hM8 (by omega))
 replace hM:=Lib.hid (hM.out.trans hM8)
 replace hD8:=Lib.hid hD8
 clear hn6 hD7 hM8
 have hX2:Hid ((rqV X).toArray = #[.int .i64 (500 + a3),.int .i64 (500 + a4),.int .i64 (500 + a5),.int .i64 (500 + a6),.int .i64 (fr + a1),.int .i64 (fr + a1 + wi),.int .i64 (fr + a1 + a2),.int .i64 (fr + a1 + a2 + wi + 30),.int .i64 (1 + a7),.int .i64 a8]):=Lib.hid (by rw [hX.out]; rfl)
 go_wp2_with (refine wpList_store_row rfl 55 _ _ rfl rfl w.heap.size rfl _ #[.int .i64 (500 + a3),.int .i64 (500 + a4),.int .i64 (500 + a5),.int .i64 (500 + a6),.int .i64 (fr + a1),.int .i64 (fr + a1 + wi),.int .i64 (fr + a1 + a2),.int .i64 (fr + a1 + a2 + wi + 30),.int .i64 (1 + a7),.int .i64 a8] _ hB.out rfl hZs (by simp [Value.oneCell']) (by kernel_rfl) ?_; intro w9 hB9 hM9)
 have hM10:=Lib.hid (hM.out.step hM9 (fun r h1 h2=>by omega))
 have hD10:=Lib.hid (hD0.out.of hM10.out (hD8.out.blk.mod hM9 (by omega)))
 exact bodyPost_ret (res_cell1 Tryz.results73 rfl (run_load_row' (P:=Tryz.prog) w9 _ 55 _ 55 _ hB9 Tryz.underlying55 rfl (by kernel_rfl))) rfl ⟨congrArg (fun a=>Ending.returned (.agg a)) hX2.out.symm,hD10.out,hM10.out⟩
def drV (B:List Int) (k:Int):Ve:=rqMk [500 + nx B (k + 1) 20,500 + nx B (k + 2) 20,8 + nx B (k + 3) 20,nx B (k + 4) 20,300 + 8 * nx B (k + 5) 100]
theorem dvehicle_calls (g:Nat) (p:Option Addr) (c:Nat) (B:List Int) (n wd k:Int) (w:World) (hD:DrS w g p c B n wd k) (hk:0≤k∧k≤100000):
  Calls Tryz.prog 50 #[.pointer (some ⟨g,0,none⟩)] w fun e w'=>e = .returned (.agg (veR (drV B k)).toArray)∧DrS w' g p c B n wd (k + 5)∧Mod (· = g) w w':=by
 have hX:drV B k = rqMk [500 + nx B (k + 1) 20,500 + nx B (k + 2) 20,8 + nx B (k + 3) 20,nx B (k + 4) 20,300 + 8 * nx B (k + 5) 100]:=rfl
 have hbk:=hD.blk.lt
 have h1:=nx_bd B (k + 1) (m:=20) (by omega)
 have h2:=nx_bd B (k + 2) (m:=20) (by omega)
 have h3:=nx_bd B (k + 3) (m:=20) (by omega)
 have h4:=nx_bd B (k + 4) (m:=20) (by omega)
 have h5:=nx_bd B (k + 5) (m:=100) (by omega)
 have hn1:=Lib.hid (fun wx (h:DrS wx g p c B n wd k)=>dplace_calls g p c B n wd k wx h (by omega))
 have hn2:=Lib.hid (fun wx (h:DrS wx g p c B n wd (k + 2))=>next7_calls g p c B n wd (k + 2) 20 wx h (by omega) (by omega))
 have hn3:=Lib.hid (fun wx (h:DrS wx g p c B n wd (k + 3))=>next7_calls g p c B n wd (k + 3) 20 wx h (by omega) (by omega))
 have hn4:=Lib.hid (fun wx (h:DrS wx g p c B n wd (k + 4))=>next7_calls g p c B n wd (k + 4) 100 wx h (by omega) (by omega))
 rw [show k + 2 + 1 = k + 3 by omega] at hn2
 rw [show k + 3 + 1 = k + 4 by omega] at hn3
 rw [show k + 4 + 1 = k + 5 by omega] at hn4
 generalize nx B (k + 1) 20 = a1 at *
 generalize nx B (k + 2) 20 = a2 at *
 generalize nx B (k + 3) 20 = a3 at *
 generalize nx B (k + 4) 20 = a4 at *
 generalize nx B (k + 5) 100 = a5 at *
 generalize drV B k = X at *
 replace hX:=Lib.hid hX
 have hD0:=Lib.hid hD
 obtain ⟨Z,hZ⟩:∃ Z:Array Value,Z = #[.int .i64 0,.int .i64 0,.int .i64 0,.int .i64 0,.int .i64 0]:=⟨_,rfl⟩
 have hZs:Z.size = 5:=by rw [hZ]; rfl
 replace hD:=Lib.hid (hD.mod ((Mod.refl (fun _=>False) w).alloc (.cells Z 59)))
 go_enter Tryz.func50,Tryz.ntmps50
 go_upto_region 1 with fail
 rw [← hZ]
 refine wp_world' (fun wx=>Blk wx w.heap.size Z 59∧DrS wx g p c B n wd k∧Mod (· = g) w wx) ⟨Blk.new _ _ _,hD.out,(Mod.refl _ _).alloc _⟩ ?_
 clear hD hZ
 rintro w2 ⟨hB,hD,hM⟩
 go_wp2_with fail
 refine (hn1.out _ hD).mono ?_
 rintro e w3 ⟨rfl,hD3,hM3⟩
 replace hB:=Lib.hid (hB.mod hM3 (by omega))
 replace hM:=Lib.hid (hM.trans hM3)
 clear hn1 hD hM3
 go_wp2_with fail
 refine (hn2.out _ hD3).mono ?_
 rintro e w4 ⟨rfl,hD4,hM4⟩
 replace hB:=Lib.hid (hB.out.mod hM4 (by omega))
 replace hM:=Lib.hid (hM.out.trans hM4)
 clear hn2 hD3 hM4
 go_wp2_with fail
 refine (hn3.out _ hD4).mono ?_
 rintro e w5 ⟨rfl,hD5,hM5⟩
 replace hB:=Lib.hid (hB.out.mod hM5 (by omega))
 replace hM:=Lib.hid (hM.out.trans hM5)
 clear hn3 hD4 hM5
 go_wp2_with fail
 refine (hn4.out _ hD5).mono ?_
 rintro e w6 ⟨rfl,hD6,hM6⟩
 replace hB:=Lib.hid (hB.out.mod hM6 (by omega))
 replace hM:=Lib.hid (hM.out.trans hM6)
 replace hD6:=Lib.hid hD6
 clear hn4 hD5 hM6
 have hX2:Hid ((veR X).toArray = #[.int .i64 (500 + a1),.int .i64 (500 + a2),.int .i64 (8 + a3),.int .i64 a4,.int .i64 (300 + 8 * a5)]):=Lib.hid (by rw [hX.out]; rfl)
 have s1:IntKind.i64.wrap (8 * a5) = 8 * a5:=IntWalk.i64_in _ (by omega)
 have s2:IntKind.i64.wrap (300 + 8 * a5) = 300 + 8 * a5:=IntWalk.i64_in _ (by omega)
 go_wp2_with (refine wpList_store_row rfl 59 _ _ rfl rfl w.heap.size rfl _ #[.int .i64 (500 + a1),.int .i64 (500 + a2),.int .i64 (8 + a3),.int .i64 a4,.int .i64 (300 + 8 * a5)] _ hB.out rfl hZs (by simp [Value.oneCell']) (by kernel_rfl) ?_; intro w9 hB9 hM9)
 have hM10:=Lib.hid (hM.out.step hM9 (fun r h1 h2=>by omega))
 have hD10:=Lib.hid (hD0.out.of hM10.out (hD6.out.blk.mod hM9 (by omega)))
 exact bodyPost_ret (res_cell1 Tryz.results50 rfl (run_load_row' (P:=Tryz.prog) w9 _ 59 _ 59 _ hB9 Tryz.underlying59 rfl (by kernel_rfl))) rfl ⟨congrArg (fun a=>Ending.returned (.agg a)) hX2.out.symm,hD10.out,hM10.out⟩
def drT (B:List Int) (wd k:Int) (m:Nat):List Rq:=(List.range m).map fun i:Nat=>drR B wd (k + 8 * (i:Int)) (25 * (i:Int))
theorem drT_len (B:List Int) (wd k:Int) (m:Nat):(drT B wd k m).length = m:=by simp [drT]
theorem drT_succ (B:List Int) (wd k:Int) (m:Nat):drT B wd k (m + 1) = drT B wd k m ++ [drR B wd (k + 8 * (m:Int)) (25 * (m:Int))]:=by
 unfold drT
 rw [List.range_succ,List.map_append]
 rfl
theorem drequests_calls (g:Nat) (p:Option Addr) (c:Nat) (B:List Int) (n wd k:Int) (m:Nat) (w:World) (hD:DrS w g p c B n wd k) (hk:0≤k∧k≤10000) (hm:m≤100):
  Calls Tryz.prog 49 #[.pointer (some ⟨g,0,none⟩),.int .i64 m] w fun e w'=>
   (∃ q d,e = .returned (.slice q (drT B wd k m).length d)∧(drT B wd k m).length≤d∧d≤9223372036854775807∧Els w' q 10 ((drT B wd k m).map rqV)∧(∀ a,q = some a→w.heap.size≤a.block))∧DrS w' g p c B n wd (k + 8 * (m:Int))∧Mod (· = g) w w':=by
 have hbk:=hD.blk.lt
 have hD0:=Lib.hid hD
 go_enter Tryz.func49,Tryz.ntmps49
 go_wp2_with fail
 go_loopw [5,6] (fun s5 s6 wx=>∃ i:Nat,i≤m∧s6 = .int .i64 i∧wx.ownsRow w.heap.size 55 10 s5 i ((drT B wd k i).map rqV).flatten∧DrS wx g p c B n wd (k + 8 * (i:Int))∧Mod (· = g) w wx) (fun _ s6 _=>m - (intOf s6).toNat)
 case atStart=>exact ⟨0,Nat.zero_le _,rfl,World.ownsRow_nil _ _ _ _,by simpa using hD,Mod.refl _ _⟩
 case round=>
  clear hD
  obtain ⟨i,hi,rfl,hO,hD,hM⟩:=hrel
  by_cases hlt:i < m
  ·have hltI:(i:Int) < (m:Int):=by omega
   have s1:IntKind.i64.wrap ((i:Int) + 1) = (i:Int) + 1:=IntWalk.i64_in _ (by omega)
   have s2:IntKind.i64.wrap (25 * (i:Int)) = 25 * (i:Int):=IntWalk.i64_in _ (by omega)
   have hrq:=Lib.hid (drequest_calls g p c B n wd (k + 8 * (i:Int)) (25 * (i:Int)) wr hD (by omega) (by omega))
   have hts:=Lib.hid (drT_succ B wd k i)
   generalize drR B wd (k + 8 * (i:Int)) (25 * (i:Int)) = X at *
   replace hO:=Lib.hid hO
   replace hM:=Lib.hid hM
   clear hD
   go_wp2_with fail
   refine hrq.out.mono ?_
   rintro e w2 ⟨rfl,hD2,hM2⟩
   have hO2:=own_mod hO.out hM2 (fun b hb e=>by have:=(own_blk_lt hO.out hb).1; omega)
   replace hM2:=hM.out.trans hM2
   have hOA:=Lib.hid (own_mod hO2 ((Mod.refl (fun _=>False) w2).alloc (.cells (rqV X).toArray 55)) (fun _ _ h=>h))
   have hDA:=Lib.hid (hD2.mod ((Mod.refl (fun _=>False) w2).alloc (.cells (rqV X).toArray 55)))
   have hMA:=Lib.hid (hM2.alloc (.cells (rqV X).toArray 55))
   have hzA:=Lib.hid hMA.out.size
   clear hrq hO hM hO2 hD2 hM2
   go_wp2_with (first | (refine wpList_bs1 rfl 38 1 0 _ rfl (.agg (rqV X).toArray) rfl _ _ (rsl_rq X _) ?_) |
    (refine wpList_appG rq_el rfl _ _ rfl w.heap.size hzA.out _ _ _ rfl hOA.out (by omega) _ 1 1 (rqV X) rfl rfl (by omega) (row_cells (Blk.new _ _ _)) (rq_one _) ?_; intro v' w13 hO' hg; have hM3:=Lib.hid (hMA.out.grown hg (fun b hb hlt=>by have:=(own_blk_lt hOA.out hb).1; omega)); have hD3:=Lib.hid (hD0.out.of hM3.out (grown_blk hDA.out.blk hOA.out hbk hg)); replace hO':=Lib.hid hO'; clear hg hOA hDA hMA hzA))
   go_roundw
   case rel=>
    refine ⟨i + 1,by omega,by simp,?_,?_,hM3.out⟩
    ·rw [hts.out,List.map_append,List.flatten_append]
     simpa using hO'.out
    ·have:=hD3.out
     rwa [show k + 8 * (i:Int) + 8 = k + 8 * ((i + 1:Nat):Int) by omega] at this
   case measure=>simp [intOf]; omega
  ·obtain rfl:i = m:=by omega
   obtain ⟨q,i',d,rfl⟩:=own_isS hO
   have hEl:=own_els (R:=(drT B wd k i).map rqV) (rqV_len _) (by rw [List.length_map,drT_len]; exact hO) (by rw [List.length_map,drT_len]; omega)
   rw [List.length_map,drT_len] at hEl
   obtain ⟨h1,rfl,h3,h4⟩:=hEl
   have hcap:=own_cap hO
   have hln:=Lib.hid (drT_len B wd k i')
   replace h1:=Lib.hid h1
   replace h4:=Lib.hid (fun a ha=>(h4 a ha).1)
   replace hD:=Lib.hid hD
   replace hM:=Lib.hid hM
   clear hO
   go_wp2_with fail
   go_ret
   exact ⟨⟨q,d,by rw [hln.out]; rfl,by rw [hln.out]; exact h3,hcap,h1.out,h4.out⟩,hD.out,hM.out⟩
end
end
section
section
open Go.RowKit
theorem run_lookV {P:Program} {ρ:Operand→Value} {o:Oper} {w:World} {x y:Operand} {t:TypeId} {b:Nat} {i:Int} {v:Value} (ho:o.op = .lookup t x y false) (hx:ρ x = .map (some b)) (hy:ρ y = .int .i64 i)
  (hrun:(Instr.lookup t (.map (some b)) (.int .i64 i) false).run P w = .ok v w):(execOp ρ o).run P w = .ok (.value v) w:=by
 simp [execOp,ho,hx,hy,hrun,Result.andThen]
theorem run_mapU {P:Program} {ρ:Operand→Value} {o:Oper} {w w':World} {x y z:Operand} {t:TypeId} {b:Nat} {i v:Int} (ho:o.op = .mapUpdate t x y z) (hx:ρ x = .map (some b)) (hy:ρ y = .int .i64 i) (hz:ρ z = .int .i64 v)
  (hrun:(Instr.mapUpdate t (.map (some b)) (.int .i64 i) (.int .i64 v)).run P w = .ok () w'):(execOp ρ o).run P w = .ok .skip w':=by
 simp [execOp,ho,hx,hy,hz,hrun,Result.andThen]
def z2:Array Value:=#[.int .i64 0,.int .i64 0]
section
variable {ρ:Operand→Value} {o:Oper} {w:World} {x y:Operand}
theorem run_ixRq {a:Addr} {n c k:Nat} (ho:o.op = .indexAddr 38 x y) (hx:ρ x = .slice (some a) n c) (hy:ρ y = .int .i64 k) (hk:k < n):(execOp ρ o).run Tryz.prog w = .ok (.value (.pointer (some (a.add (k * 10))))) w:=by
 have h0:(0:Int)≤(k:Int):=by omega
 have h1:(k:Int) < (n:Int):=by omega
 have h2:((k:Int)).toNat = k:=by omega
 unfold execOp
 simp only [ho,hx,hy]
 go_simp
theorem run_maxD {m a b:Int} (hm:m = if a < b then b else a) (ho:o.op = .call { callee:=.builtin .max,args:=#[x,y],argTypes:=#[3,3] }) (hx:ρ x = .int .i64 a) (hy:ρ y = .int .i64 b):
  (execOp ρ o).run Tryz.prog w = .ok (.value (.int .i64 m)) w:=by
 subst hm
 unfold execOp
 simp only [ho]
 go_simp
theorem run_fldA {a:Addr} (ho:o.op = .fieldAddr 55 x 5) (hx:ρ x = .pointer (some a)):(execOp ρ o).run Tryz.prog w = .ok (.value (.pointer (some (a.add 9)))) w:=by
 unfold execOp
 simp only [ho,hx]
 go_simp
theorem run_storeI {p:Addr} {n:Int} {u:Value} (ho:o.op = .store 3 x y) (hx:ρ x = .pointer (some p)) (hy:ρ y = .int .i64 n) (hc:w.cell? p = some u) (hf:w.frozen? p = false):
  (execOp ρ o).run Tryz.prog w = .ok .skip (w.setCell p (.int .i64 n)):=by
 unfold execOp
 simp only [ho,hx,hy]
 go_simp
theorem run_ext {i:Nat} {vs:Array Value} {v:Value} (ho:o.op = .extract x i) (hx:ρ x = .tuple vs) (hv:vs[i]? = some v):(execOp ρ o).run Tryz.prog w = .ok (.value v) w:=by
 unfold execOp
 simp only [ho,hx]
 simp [Instr.extract,hv]
theorem run_cellRq {p:Addr} {q:Option Addr} {n c:Nat} (h:w.cell? p = some (.slice q n c)):(loadVar 38 p).run Tryz.prog w = .ok (.slice q n c) w:=by go_simp
end
def gX (k:Int) (q:Rq):Int:=if k = 0 then q 0 else q 2
def gY (k:Int) (q:Rq):Int:=if k = 0 then q 1 else q 3
def gE (k:Int) (q:Rq):Int:=if k = 0 then q 4 else q 6
def gL (k:Int) (q:Rq):Int:=if k = 0 then q 5 else q 7
def gB (k:Int) (q:Rq) (ax ay now:Int):Int:=mx (now + dsP ax ay (gX k q) (gY k q)) (gE k q)
end
end
section
open Go.RowKit
theorem rqE_all {q:Rq} (h:rqE q = 0):(0≤q 4∧q 4≤q 5∧q 5≤1048576)∧(0≤q 6∧q 6≤q 7∧q 7≤1048576)∧(1≤q 8∧q 8≤1000)∧(0≤q 9∧q 9≤1000):=by
 unfold rqE rqCode firstC at h
 cases h1:(plB (q 0) (q 1) && plB (q 2) (q 3)) <;> rw [h1] at h
 ·simp at h
 cases h2:(wiB (q 4) (q 5) && wiB (q 6) (q 7)) <;> rw [h2] at h
 ·simp at h
 cases h3:(decide (1≤q 8∧q 8≤1000) && decide (0≤q 9∧q 9≤1000)) <;> rw [h3] at h
 ·simp at h
 rw [Bool.and_eq_true] at h2 h3
 exact ⟨of_decide_eq_true h2.1,of_decide_eq_true h2.2,of_decide_eq_true h3.1,of_decide_eq_true h3.2⟩
end
section
section
open Go.RowKit
def opF (l:List (Int × Int)) (r:Int) (i:Nat):Nat→Int × Int × Bool
 | 0=>(0,0,true)
 | j + 1=>
  let s:=l.getD j (0,0)
  let q:=opF l r i j
  if s.1 ≠ r then q
  else (if s.2 = 0 then 1 else q.1,if s.2 = 1 then 1 else if s.2 = 0 then 0 else q.2.1,q.2.2 && decide (i≤j))
end
end
section
section
def Okq (q:List (Int × Int)):Prop:=∀ j s,q[j]? = some s→okAt (q.take j) s
theorem opF_count {l:List (Int × Int)} (h:Okq l) (r:Int) (i:Nat):∀ j,j≤l.length→(opF l r i j).1 = (l.take j).count (r,0)∧(opF l r i j).2.1 = (l.take j).count (r,1)
 | 0,_=>by simp [opF]
 | j + 1,hj=>by
  have hlt:j < l.length:=by omega
  obtain ⟨i1,i2⟩:=opF_count h r i j (by omega)
  have hs:l.getD j (0,0) = l[j]:=by rw [List.getD_eq_getElem?_getD,List.getElem?_eq_getElem hlt]; rfl
  have hok:=h j l[j] (List.getElem?_eq_getElem hlt)
  simp only [opF,hs]
  rw [count_take_succ l j hlt,count_take_succ l j hlt]
  clear hs
  generalize l[j] = s at hok ⊢
  obtain ⟨x1,x2⟩:=s
  unfold okAt at hok
  dsimp only at hok ⊢
  by_cases hr:x1 = r
  ·subst hr
   rw [if_neg (by simp)]
   dsimp only
   rcases hok.2 with ⟨rfl,h1,h2⟩ | ⟨rfl,h1,h2⟩
   ·simp [h1,h2]
   ·simp [h1,h2,i1]
  ·rw [if_pos hr,if_neg (by simp [hr]),if_neg (by simp [hr])]
   simp [i1,i2]
theorem sum_pick (q:List (Int × Int)) (x:Int × Int) (v:Int):(q.map fun u=>if u = x then v else 0).sum = (q.count x:Nat) * v:=by
 induction q with
 | nil=>simp
 | cons y q ih=>
  rw [List.map_cons,List.sum_cons,ih,List.count_cons]
  by_cases h:y = x
  ·simp only [h,if_true,beq_self_eq_true]
   rw [Int.natCast_add,Int.add_mul]
   simp
   omega
  ·simp [h]
theorem sum_sub (q:List (Int × Int)) (a b:Int × Int→Int):(q.map fun u=>a u - b u).sum = (q.map a).sum - (q.map b).sum:=by
 induction q with
 | nil=>simp
 | cons y q ih=>simp only [List.map_cons,List.sum_cons,ih]; omega
def opS (f:Int→Int) (q:List (Int × Int)):Int:=(q.map fun s=>if s.2 = 0∧q.count (s.1,1) = 0 then f s.1 else 0).sum
def sgF (f:Int→Int) (s:Int × Int):Int:=(if s.2 = 0 then 1 else -1) * f s.1
theorem opS_snoc (f:Int→Int) (q:List (Int × Int)) (s:Int × Int) (h:okAt q s):opS f (q ++ [s]) = opS f q + sgF f s:=by
 obtain ⟨r,k⟩:=s
 unfold okAt at h
 dsimp only at h
 unfold opS
 rw [List.map_append,List.sum_append]
 rcases h.2 with ⟨rfl,h1,h2⟩ | ⟨rfl,h1,h2⟩
 ·have e:∀ u:Int,(q ++ [(r,(0:Int))]).count (u,1) = q.count (u,1):=fun u=>by rw [count_snoc,if_neg (by simp)]; rfl
  simp only [e]
  simp [h2,sgF]
 ·have e:∀ u:Int,(q ++ [(r,(1:Int))]).count (u,1) = q.count (u,1) + if r = u then 1 else 0:=fun u=>by rw [count_snoc]; by_cases hu:r = u <;> simp [hu]
  simp only [e]
  have hm:(q.map fun s=>if s.2 = 0∧(q.count (s.1,1) + if r = s.1 then 1 else 0) = 0 then f s.1 else 0) = q.map fun s=>(if s.2 = 0∧q.count (s.1,1) = 0 then f s.1 else 0) - (if s = (r,0) then f r else 0):=by
   refine List.map_congr_left fun s _=>?_
   obtain ⟨u,v⟩:=s
   dsimp only
   by_cases hu:r = u
   ·subst hu
    by_cases hv:v = 0
    ·subst hv; simp [h2]
    ·simp [hv]
   ·have hu':¬ u = r:=fun e=>hu e.symm
    simp [hu,hu']
  rw [hm,sum_sub,sum_pick,h1]
  simp [sgF]
  omega
theorem opS_eq (f:Int→Int) (l:List (Int × Int)) (h:Okq l):∀ k,k≤l.length→opS f (l.take k) = ((l.take k).map (sgF f)).sum
 | 0,_=>by simp [opS]
 | k + 1,hk=>by
  have hlt:k < l.length:=by omega
  rw [List.take_succ_eq_append_getElem hlt,opS_snoc f _ _ (h k l[k] (List.getElem?_eq_getElem hlt)),opS_eq f l h k (by omega),List.map_append,List.sum_append]
  simp
theorem okq_of {l:List (Int × Int)} (h:chkP l = 0):Okq l:=fun _ _ hs=>ok_at h hs
end
end
section
def insS (l:List (Int × Int)) (k:Nat) (s:Int × Int):List (Int × Int):=l.take k ++ s :: l.drop k
def sub (l:List (Int × Int)) (r:Int):List (Int × Int):=l.filter fun s=>s.1 == r
theorem sub_append (a b:List (Int × Int)) (r:Int):sub (a ++ b) r = sub a r ++ sub b r:=List.filter_append _ _
theorem sub_one (s:Int × Int) (r:Int):sub [s] r = if s.1 = r then [s] else []:=by
 unfold sub
 by_cases h:s.1 = r <;> simp [h]
theorem sub_count (l:List (Int × Int)) (r k:Int):l.count (r,k) = (sub l r).count (r,k):=by
 unfold sub
 rw [List.count_filter (by simp)]
def pd (r:Int):List (Int × Int):=[(r,0),(r,1)]
theorem okq_sub {l:List (Int × Int)} (h:Okq l) (r:Int):∀ j,j≤l.length→sub (l.take j) r = []∨(0≤r∧(sub (l.take j) r = [(r,0)]∨sub (l.take j) r = pd r))
 | 0,_=>.inl rfl
 | j + 1,hj=>by
  have hlt:j < l.length:=by omega
  have ih:=okq_sub h r j (by omega)
  have hok:=h j l[j] (List.getElem?_eq_getElem hlt)
  rw [List.take_succ_eq_append_getElem hlt,sub_append,sub_one]
  by_cases hr:l[j].1 = r
  ·rw [if_pos hr]
   generalize l[j] = s at *
   obtain ⟨s1,s2⟩:=s
   dsimp only at hr
   subst hr
   unfold okAt at hok
   dsimp only at hok
   rw [sub_count _ _ 0,sub_count _ _ 1] at hok
   rcases ih with e | ⟨hp,e | e⟩
   ·rw [e] at hok ⊢
    rcases hok.2 with ⟨rfl,_⟩ | ⟨_,h1,_⟩
    ·exact .inr ⟨hok.1,.inl rfl⟩
    ·simp at h1
   ·rw [e] at hok ⊢
    rcases hok.2 with ⟨_,h1,_⟩ | ⟨rfl,_⟩
    ·simp at h1
    ·exact .inr ⟨hok.1,.inr rfl⟩
   ·rw [e] at hok
    unfold pd at hok
    rcases hok.2 with ⟨_,h1,_⟩ | ⟨_,_,h2⟩
    ·simp at h1
    ·simp at h2
  ·rw [if_neg hr,List.append_nil]
   exact ih
theorem sub_split {l:List (Int × Int)} {j:Nat} {s:Int × Int} (h:l[j]? = some s):sub l s.1 = sub (l.take j) s.1 ++ s :: sub (l.drop (j + 1)) s.1:=by
 obtain ⟨hlt,rfl⟩:=List.getElem?_eq_some_iff.1 h
 have e:l = l.take j ++ ([l[j]] ++ l.drop (j + 1)):=by
  rw [List.singleton_append,← List.drop_eq_getElem_cons hlt,List.take_append_drop]
 rw [congrArg (fun l=>sub l _) e]
 rw [sub_append,sub_append,sub_one,if_pos rfl]
 rfl
theorem route_iff (l:List (Int × Int)):chkP l = 0↔l.length≤16∧∀ r,sub l r = []∨(0≤r∧sub l r = pd r):=by
 constructor
 ·intro h
  have h16:=chkP_len h
  refine ⟨h16,fun r=>?_⟩
  have hq:=okq_of h
  have hb:=((chkP_zero l (by omega)).1 h).2 r
  rcases okq_sub hq r l.length (Nat.le_refl _) with e | ⟨hp,e | e⟩
  ·rw [List.take_length] at e; exact .inl e
  ·rw [List.take_length] at e
   rw [sub_count,sub_count _ _ 1,e] at hb
   simp at hb
  ·rw [List.take_length] at e; exact .inr ⟨hp,e⟩
 ·rintro ⟨h16,hr⟩
  refine (chkP_zero l (by omega)).2 ⟨fun j s hs=>?_,fun r=>?_⟩
  ·have hsp:=sub_split hs
   unfold okAt
   rw [sub_count,sub_count _ _ 1]
   rcases hr s.1 with e | ⟨hp,e⟩
   ·rw [e] at hsp; simp at hsp
   ·rw [e] at hsp
    unfold pd at hsp
    refine ⟨hp,?_⟩
    generalize sub (l.take j) s.1 = q at hsp ⊢
    match q with
    | []=>
     simp at hsp
     refine .inl ⟨?_,rfl,rfl⟩
     rw [← hsp.1]
    | [a]=>
     simp at hsp
     obtain ⟨h1,h2,_⟩:=hsp
     refine .inr ⟨?_,?_,?_⟩
     ·rw [← h2]
     ·rw [← h1]; simp
     ·rw [← h1]; simp
    | a :: b :: q=>simp at hsp
  ·rw [sub_count,sub_count _ _ 1]
   rcases hr r with e | ⟨_,e⟩
   ·rw [e]; rfl
   ·rw [e]; simp [pd]
def Rou (l:List (Int × Int)):Prop:=∀ r,sub l r = []∨(0≤r∧sub l r = pd r)
theorem sub_nil_iff (l:List (Int × Int)) (r:Int):sub l r = []↔∀ s ∈ l,s.1 ≠ r:=by
 unfold sub
 rw [List.filter_eq_nil_iff]
 simp
theorem rou_mem {l:List (Int × Int)} (h:Rou l) {s:Int × Int} (hs:s ∈ l):0≤s.1∧(s.2 = 0∨s.2 = 1)∧sub l s.1 = pd s.1:=by
 have hm:s ∈ sub l s.1:=by unfold sub; rw [List.mem_filter]; exact ⟨hs,by simp⟩
 rcases h s.1 with e | ⟨hp,e⟩
 ·rw [e] at hm; cases hm
 ·refine ⟨hp,?_,e⟩
  rw [e] at hm
  obtain ⟨a,b⟩:=s
  simp [pd] at hm
  exact hm
theorem sub_woP (l:List (Int × Int)) (req r:Int):sub (woP l req) r = if r = req then [] else sub l r:=by
 unfold sub woP
 rw [List.filter_filter]
 by_cases h:r = req
 ·rw [if_pos h,List.filter_eq_nil_iff]
  intro s _
  simp [h]
 ·rw [if_neg h]
  refine List.filter_congr fun s _=>?_
  by_cases e:s.1 = r
  ·simp [e,h]
  ·simp [e]
theorem rou_woP {l:List (Int × Int)} (h:Rou l) (req:Int):Rou (woP l req):=fun r=>by
 rw [sub_woP]
 by_cases e:r = req
 ·rw [if_pos e]; exact .inl rfl
 ·rw [if_neg e]; exact h r
theorem sub_insS (l:List (Int × Int)) (k:Nat) (s:Int × Int) (r:Int):sub (insS l k s) r = sub (l.take k) r ++ ((if s.1 = r then [s] else []) ++ sub (l.drop k) r):=by
 unfold insS
 rw [sub_append,show s :: l.drop k = [s] ++ l.drop k from rfl,sub_append,sub_one]
theorem sub_take_drop (l:List (Int × Int)) (k:Nat) (r:Int):sub (l.take k) r ++ sub (l.drop k) r = sub l r:=by
 rw [← sub_append,List.take_append_drop]
theorem insS_take_lt (l:List (Int × Int)) {k j:Nat} (s:Int × Int) (hk:k≤l.length) (h:k < j):(insS l k s).take j = l.take k ++ s :: (l.drop k).take (j - k - 1):=by
 unfold insS
 rw [List.take_append,List.length_take,Nat.min_eq_left hk]
 rw [List.take_of_length_le (by simp; omega)]
 obtain ⟨d,rfl⟩:∃ d,j = k + 1 + d:=⟨j - k - 1,by omega⟩
 rw [show k + 1 + d - k = d + 1 by omega,List.take_succ_cons,Nat.add_sub_cancel]
theorem insS_drop_lt (l:List (Int × Int)) {k j:Nat} (s:Int × Int) (hk:k≤l.length) (h:k < j):(insS l k s).drop j = (l.drop k).drop (j - k - 1):=by
 unfold insS
 rw [List.drop_append,List.length_take,Nat.min_eq_left hk]
 rw [List.drop_of_length_le (by simp; omega)]
 obtain ⟨d,rfl⟩:∃ d,j = k + 1 + d:=⟨j - k - 1,by omega⟩
 rw [show k + 1 + d - k = d + 1 by omega,List.drop_succ_cons,List.nil_append,Nat.add_sub_cancel]
theorem rou_ins {l:List (Int × Int)} (h:Rou l) {req:Int} (hr:0≤req) (hn:∀ s ∈ l,s.1 ≠ req) {k j:Nat} (hk:k≤l.length) (hkj:k < j):Rou (insS (insS l k (req,0)) j (req,1)):=fun r=>by
 rw [sub_insS]
 by_cases e:req = r
 ·subst e
  have h1:sub (l.take k) req = []:=(sub_nil_iff _ _).2 fun s hs=>hn s (List.mem_of_mem_take hs)
  have h2:∀ n,sub ((l.drop k).take n) req = []:=fun n=>(sub_nil_iff _ _).2 fun s hs=>hn s (List.mem_of_mem_drop (List.mem_of_mem_take hs))
  have h3:∀ n,sub ((l.drop k).drop n) req = []:=fun n=>(sub_nil_iff _ _).2 fun s hs=>hn s (List.mem_of_mem_drop (List.mem_of_mem_drop hs))
  rw [insS_take_lt l _ hk hkj,insS_drop_lt l _ hk hkj,sub_append,show ∀ q,(req,(0:Int)) :: q = [(req,0)] ++ q from fun _=>rfl,sub_append,sub_one,h1,h2,h3]
  simp only [if_true,List.nil_append,List.append_nil]
  exact .inr ⟨hr,rfl⟩
 ·rw [if_neg e,List.nil_append,sub_take_drop,sub_insS,if_neg e,List.nil_append,sub_take_drop]
  exact h r
theorem withL_ins (l:List (Int × Int)) (req:Int) {i j:Nat} (hij:i≤j) (hj:j≤l.length):withL l req i j = insS (insS l i (req,0)) (j + 1) (req,1):=by
 unfold withL
 show _ = (insS l i (req,0)).take (j + 1) ++ (req,1) :: (insS l i (req,0)).drop (j + 1)
 rw [insS_take_lt l _ (by omega) (by omega),insS_drop_lt l _ (by omega) (by omega),show j + 1 - i - 1 = j - i by omega,List.drop_drop,show i + (j - i) = j by omega]
 simp
theorem insS_mem {l:List (Int × Int)} {k:Nat} {s x:Int × Int}:x ∈ insS l k s↔x = s∨x ∈ l:=by
 unfold insS
 constructor
 ·intro h
  rcases List.mem_append.1 h with h | h
  ·exact .inr (List.mem_of_mem_take h)
  ·rcases List.mem_cons.1 h with h | h
   ·exact .inl h
   ·exact .inr (List.mem_of_mem_drop h)
 ·rintro (rfl | h)
  ·simp
  ·rw [← List.take_append_drop k l] at h
   rcases List.mem_append.1 h with h | h
   ·exact List.mem_append_left _ h
   ·exact List.mem_append_right _ (List.mem_cons_of_mem _ h)
theorem woP_mem {l:List (Int × Int)} {req:Int} {s:Int × Int}:s ∈ woP l req↔s ∈ l∧s.1 ≠ req:=by
 unfold woP
 rw [List.mem_filter]
 simp
theorem withP_some {l:List (Int × Int)} {req:Int} {i j:Nat} (hij:i≤j) (hj:j≤l.length) (hr:0≤req) (hn:∀ s ∈ l,s.1 ≠ req) (hl:l.length≤14):withP l req i j = some (withL l req i j):=by
 have ha:¬ l.any (fun s=>s.1 == req) = true:=by
  rw [List.any_eq_true]
  rintro ⟨s,hs,e⟩
  exact hn s hs (by simpa using e)
 unfold withP
 rw [if_neg (by simp only [not_or]; exact ⟨by omega,by omega,by omega,by omega,ha,by omega⟩),Int.toNat_natCast,Int.toNat_natCast]
end
end Go.Proofs.YtkaoflndbcfodaaGreat
