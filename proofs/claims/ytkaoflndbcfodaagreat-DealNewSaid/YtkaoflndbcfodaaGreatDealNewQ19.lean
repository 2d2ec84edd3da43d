/-
  The row 'DealNew': a pack of the texts Pb Pc Pe Pg, pruned to what the row uses.
-/
import Derived.Test.YtkaoflndbcfodaaGreatDealNewQ17
import Derived.Test.YtkaoflndbcfodaaGreatDealNewQ18
namespace Go.Proofs.YtkaoflndbcfodaaGreat
set_option maxHeartbeats 8000000
set_option maxRecDepth 100000
section
section
open Go.RowKit
structure ClB (Z C:Array Value) (t:TypeId) (w:World) (x:Nat) (b1 b2:Bool) (W:World):Prop where
 m:Mod (fun _=>False) w W
 x0:b1 = true→Blk W x (bif b2 then C else Z) t∧w.heap.size≤x
section
variable {Z C:Array Value} {t:TypeId} {w W:World} {x:Nat} {b1 b2:Bool}
theorem ClB.mod (h:ClB Z C t w x b1 b2 W) {W':World} (hm:Mod (fun _=>False) W W'):ClB Z C t w x b1 b2 W':=
 ⟨h.m.trans hm,fun e=>⟨(h.x0 e).1.mod hm (fun h=>h),(h.x0 e).2⟩⟩
theorem ClB.box (h:ClB Z C t w x b1 false W):ClB Z C t w W.heap.size true false (W.alloc (.cells Z t)):=
 ⟨h.m.alloc _,fun _=>⟨Blk.new W _ _,h.m.size⟩⟩
theorem ClB.put (h:ClB Z C t w x true b2 W):ClB Z C t w x true true (W.setRow x C):=
 have hx:=h.x0 rfl
 have hm:=mod_row W x C
 ⟨⟨h.m.os,h.m.tape,h.m.output,by simpa [World.setRow] using h.m.size,fun k hk hs=>(hm.block k (Nat.lt_of_lt_of_le hk h.m.size) (by show ¬ _ = _; omega)).trans (h.m.block k hk hs)⟩,
  fun _=>⟨setRow_heap W x _ C t (0,0) hx.1,hx.2⟩⟩
end
section
variable {ρ:Operand→Value} {o:Oper} {w:World} {x y z u:Operand}
theorem run_allocW (ho:o.op = .alloc 114):(execOp ρ o).run Tryz.prog w = .ok (.value (.pointer (some ⟨w.heap.size,0,none⟩))) (w.alloc (.cells (tmV (0,0,0)).toArray 114)):=by
 unfold execOp
 simp only [ho]
 kernel_rfl
theorem run_callBest {a b c d:Value} (ho:o.op = .call { callee:=.value (.func 51),args:=#[x,y,z,u],argTypes:=#[59,82,38,3] }) (hx:ρ x = a) (hy:ρ y = b) (hz:ρ z = c) (hu:ρ u = d)
  (hf:ρ (.func 51) = .func (.func 51) #[] #[]:=by rfl):(execOp ρ o).run Tryz.prog w = .ok (.enter 51 #[a,b,c,d]) w:=by
 unfold execOp
 simp only [ho]
 go_simp
theorem run_ixTr {a:Addr} {n c k:Nat} (ho:o.op = .indexAddr 85 x y) (hx:ρ x = .slice (some a) n c) (hy:ρ y = .int .i64 k) (hk:k < n):(execOp ρ o).run Tryz.prog w = .ok (.value (.pointer (some (a.add (k * 6))))) w:=by
 have h0:(0:Int)≤(k:Int):=by omega
 have h1:(k:Int) < (n:Int):=by omega
 have h2:((k:Int)).toNat = k:=by omega
 unfold execOp
 simp only [ho,hx,hy]
 go_simp
theorem run_cellSt {p:Addr} {q:Option Addr} {n c:Nat} (h:w.cell? p = some (.slice q n c)):(loadVar 82 p).run Tryz.prog w = .ok (.slice q n c) w:=by go_simp
end
theorem tr_one (v:Ve) (q:Option Addr × Nat) (n:Nat):∀ u ∈ trV v q n,u.oneCell' = true:=by simp [trV,Value.oneCell']
theorem ld_tour {w:World} {a:Addr} {fl:List Ve} {rows:List Rou2} {qs:List (Option Addr × Nat)} (h:Els w (some a) 6 (trs fl rows qs)) {i:Nat} (hi:i < fl.length):
  (loadVar 84 (a.add (i * 6))).run Tryz.prog w = .ok (.agg (trV (fl.getD i ve0) (qs.getD i (none,0)) (rows.getD i []).length).toArray) w:=by
 have hi':i < (trs fl rows qs).length:=by rw [trs_len]; exact hi
 have:=h.load (P:=Tryz.prog) (a:=a) rfl (k:=i) hi' (ty:=84) Tryz.underlying84 rfl (by kernel_rfl)
 have e:=trs_at fl rows qs hi
 rw [List.getElem?_eq_getElem hi'] at e
 rw [Option.some.inj e] at this
 exact this
theorem price_calls {w:World} {F:Nat→Prop} {b gT gM N:Nat} {fl:List Ve} {rows:List Rou2} {t:List Rq} (h:PlanAt w F b gT gM N fl rows t) (req:Int) (hq:wf64 req):
  Calls Tryz.prog 27 #[.pointer (some ⟨b,0,none⟩),.int .i64 req] w fun e w'=>e = .returned (.tuple #[.int .i64 (prcP fl rows t req).1,.int .i64 (prcP fl rows t req).2.1,.int .i64 (prcP fl rows t req).2.2])∧Below w.heap.size w w':=by
 have hh:=Lib.hid (has_calls h req hq)
 have hX:prcP fl rows t req = if req < 0∨(t.length:Int)≤req then ((0,0,8):Int × Int × Int) else if 0≤whereP rows req then (0,0,13) else match prcK fl rows t req fl.length with | none=>(0,0,12) | some p=>((p.1:Int),p.2,0):=rfl
 obtain ⟨qT,dT,cT,qs,h⟩:=h
 obtain ⟨sK,vK,rK,hK0,hKs,hKe⟩:∃ (sK:Nat→Bool) (vK rK:Nat→Int),(sK 0 = false∧vK 0 = 0∧rK 0 = 0)∧
   (∀ k,((bestV (fl.getD k ve0) (rows.getD k []) t req).2 ≠ 0→sK (k + 1) = sK k∧vK (k + 1) = vK k∧rK (k + 1) = rK k)∧
     ((bestV (fl.getD k ve0) (rows.getD k []) t req).2 = 0→(sK k = true∧rK k≤(bestV (fl.getD k ve0) (rows.getD k []) t req).1.2.2→sK (k + 1) = sK k∧vK (k + 1) = vK k∧rK (k + 1) = rK k)∧
       ((sK k = false∨¬ rK k≤(bestV (fl.getD k ve0) (rows.getD k []) t req).1.2.2)→sK (k + 1) = true∧vK (k + 1) = (k:Int)∧rK (k + 1) = (bestV (fl.getD k ve0) (rows.getD k []) t req).1.2.2)))∧
   (match prcK fl rows t req fl.length with | none=>((0:Int),(0:Int),(12:Int)) | some p=>((p.1:Int),p.2,0)) = if sK fl.length = true then (vK fl.length,rK fl.length,0) else (0,0,12):=by
  have e1:∀ k,(bestV (fl.getD k ve0) (rows.getD k []) t req).2 ≠ 0→prcK fl rows t req (k + 1) = prcK fl rows t req k:=fun k h1=>if_pos h1
  have e2:∀ k,(bestV (fl.getD k ve0) (rows.getD k []) t req).2 = 0→prcK fl rows t req (k + 1) = match prcK fl rows t req k with
   | none=>some (k,(bestV (fl.getD k ve0) (rows.getD k []) t req).1.2.2)
   | some p=>if p.2≤(bestV (fl.getD k ve0) (rows.getD k []) t req).1.2.2 then some p else some (k,(bestV (fl.getD k ve0) (rows.getD k []) t req).1.2.2):=fun k h1=>if_neg (by omega)
  refine ⟨fun k=>(prcK fl rows t req k).isSome,fun k=>((prcK fl rows t req k).map fun p=>(p.1:Int)).getD 0,fun k=>((prcK fl rows t req k).map fun p=>p.2).getD 0,⟨rfl,rfl,rfl⟩,fun k=>⟨fun h1=>?_,fun h1=>⟨fun h2=>?_,fun h2=>?_⟩⟩,?_⟩
  ·dsimp only
   rw [e1 k h1]
   exact ⟨rfl,rfl,rfl⟩
  ·dsimp only at h2 ⊢
   rw [e2 k h1]
   cases hp:prcK fl rows t req k with
   | none=>rw [hp] at h2; simp at h2
   | some p=>
    rw [hp] at h2
    have h3:p.2≤(bestV (fl.getD k ve0) (rows.getD k []) t req).1.2.2:=by simpa using h2.2
    dsimp only
    rw [if_pos h3]
    exact ⟨rfl,rfl,rfl⟩
  ·dsimp only at h2 ⊢
   rw [e2 k h1]
   cases hp:prcK fl rows t req k with
   | none=>exact ⟨rfl,rfl,rfl⟩
   | some p=>
    rw [hp] at h2
    have h3:¬ p.2≤(bestV (fl.getD k ve0) (rows.getD k []) t req).1.2.2:=by simpa using h2
    dsimp only
    rw [if_neg h3]
    exact ⟨rfl,rfl,rfl⟩
  ·cases hp:prcK fl rows t req fl.length with
   | none=>simp [hp]
   | some p=>simp [hp]
 rw [hKe] at hX
 clear hKe
 have hb0:=Lib.hid (fun k wx (hb:Below w.heap.size w wx)=>best_calls (fl.getD k ve0 0) (fl.getD k ve0 1) (fl.getD k ve0 2) (fl.getD k ve0 3) (fl.getD k ve0 4) req (qs.getD k (none,0)).1 qT (qs.getD k (none,0)).2 dT (rows.getD k []) t wx ((h.row k).below hb) (h.cap k).1 (h.req.below hb))
 have hfl:=h.many.1
 have htb:=h.req.big
 rw [List.length_map] at htb
 have hbox:=h.box
 obtain ⟨aT,haT⟩:∃ aT:Addr,(⟨gT,0,none⟩:Addr) = aT:=⟨_,rfl⟩
 have hto:=h.tours
 rw [haT] at hbox hto
 have hld:=Lib.hid (fun k (hk:k < fl.length) wx (hb:Below w.heap.size w wx)=>ld_tour (hto.below hb) hk)
 generalize prcP fl rows t req = X at hX ⊢
 generalize whereP rows req = wh at *
 have k0:=hbox.cell (i:=0) rfl
 have k1:=hbox.cell (i:=1) rfl
 replace hX:=Lib.hid hX
 replace hbox:=Lib.hid hbox
 have hKs':=Lib.hid hKs
 obtain ⟨z1,z2,z3⟩:=hK0
 replace z1:=Lib.hid z1
 replace z2:=Lib.hid z2
 replace z3:=Lib.hid z3
 generalize hTT:t.length = T at *
 replace hTT:=Lib.hid hTT
 clear h hto haT hKs
 by_cases c1:req < 0
 ·obtain rfl:X = (0,0,8):=by rw [hX.out,if_pos (.inl c1)]
  clear hX hb0 hld hKs' hh k0 k1 hq
  go_enter Tryz.func27,Tryz.ntmps27
  go_wp2_with fail
  go_ret3
  exact ⟨rfl,Below.refl _ _⟩
 by_cases c2:(T:Int)≤req
 ·obtain rfl:X = (0,0,8):=by rw [hX.out,if_pos (.inr c2)]
  clear hX hb0 hld hKs' hh k1 hq
  go_enter Tryz.func27,Tryz.ntmps27
  go_wp2_with fail
  go_ret3
  exact ⟨rfl,Below.refl _ _⟩
 by_cases c3:0≤wh
 ·obtain rfl:X = (0,0,13):=by rw [hX.out,if_neg (by omega),if_pos c3]
  have hh':=hh.out
  rw [decide_eq_true c3] at hh'
  replace hh:=Lib.hid hh'
  clear hh' hX hb0 hld hKs' k1 hq c3
  go_enter Tryz.func27,Tryz.ntmps27
  go_wp2_with fail
  refine hh.out.mono ?_
  rintro e w1 ⟨rfl,rfl⟩
  go_wp2_with fail
  go_ret3
  exact ⟨rfl,Below.refl _ _⟩
 have hX2:Hid (X = if sK fl.length = true then (vK fl.length,rK fl.length,0) else (0,0,12)):=Lib.hid (by rw [hX.out,if_neg (by omega),if_neg c3])
 have hh':=hh.out
 rw [decide_eq_false c3] at hh'
 replace hh:=Lib.hid hh'
 clear hh' hX c3 hq
 go_enter Tryz.func27,Tryz.ntmps27
 go_wp2_with fail
 refine hh.out.mono ?_
 rintro e w0 ⟨rfl,rfl⟩
 clear hh
 go_wp2_with fail
 go_loopw [36,7,4,5] (fun s36 s7 s4 s5 wx=>∃ k:Nat,k≤fl.length∧s36 = .int .i64 k∧s7 = .bool (sK k)∧s4 = .int .i64 (vK k)∧s5 = .int .i64 (rK k)∧Below w.heap.size w wx) (fun s36 _ _ _ _=>fl.length - (intOf s36).toNat)
 case atStart=>exact ⟨0,Nat.zero_le _,rfl,by rw [z1.out],by rw [z2.out],by rw [z3.out],Below.refl _ _⟩
 case round=>
  obtain ⟨k,hk,rfl,rfl,rfl,rfl,hb⟩:=hrel
  by_cases hlt:k < fl.length
  ·have hltI:(k:Int) < (fl.length:Int):=by omega
   have hk0:(0:Int)≤(k:Int):=by omega
   have s1:IntKind.i64.wrap ((k:Int) + 1) = (k:Int) + 1:=IntWalk.i64_in _ (by omega)
   have hl:=hld.out k hlt wr hb
   obtain ⟨V,hV⟩:∃ V,(veR (fl.getD k ve0)).toArray = V:=⟨_,rfl⟩
   obtain ⟨Y,hY⟩:∃ Y,(trV (fl.getD k ve0) (qs.getD k (none,0)) (rows.getD k []).length).toArray = Y:=⟨_,rfl⟩
   have hYs:Y.size = 6:=by rw [← hY]; rfl
   have hY1:∀ u ∈ Y.toList,u.oneCell' = true:=by rw [← hY]; exact tr_one _ _ _
   have hYv:Y.extract 0 (0 + 5) = V:=by rw [← hY,← hV]; rfl
   have hYq:Y[5]? = some (.slice (qs.getD k (none,0)).1 (rows.getD k []).length (qs.getD k (none,0)).2):=by rw [← hY]; rfl
   have hb1:=hb0.out k
   have hst:=hKs'.out k
   change ∀ wx,Below w.heap.size w wx→Calls Tryz.prog 51 #[.agg (veR (fl.getD k ve0)).toArray,_,_,_] wx (fun e w'=>e = .returned (.tuple #[.agg (tmV (bestV (fl.getD k ve0) (rows.getD k []) t req).1).toArray,.int .i64 (bestV (fl.getD k ve0) (rows.getD k []) t req).2])∧Below wx.heap.size wx w') at hb1
   rw [hV] at hb1
   rw [hY] at hl
   clear hY hV
   obtain ⟨B,be,hBe⟩:∃ B be,bestV (fl.getD k ve0) (rows.getD k []) t req = (B,be):=⟨_,_,rfl⟩
   rw [hBe] at hb1 hst
   dsimp only at hb1 hst
   clear hBe
   generalize (qs.getD k (none,0)).1 = qk at *
   generalize (qs.getD k (none,0)).2 = dk at *
   generalize (rows.getD k []).length = n at *
   have hpre:=Lib.hid (show Blk (wr.alloc (.cells Y 84)) wr.heap.size Y 84∧Below w.heap.size w (wr.alloc (.cells Y 84)) from ⟨Blk.new _ _ _,hb.alloc hb.size _⟩)
   have hkk:=(hbox.out.mod ((Mod.refl (fun _=>False) _).after hb) (fun h=>h)).cell (i:=1) rfl
   have hsz:=hb.size
   replace hl:=Lib.hid hl
   replace hYs:=Lib.hid hYs
   replace hY1:=Lib.hid hY1
   replace hYv:=Lib.hid hYv
   replace hYq:=Lib.hid hYq
   replace hb1:=Lib.hid hb1
   replace hst:=Lib.hid hst
   clear hb
   go_upto_region 11 with (first | (refine wpList_v rfl (.pointer (some (aT.add (k * 6)))) (run_ixTr (k:=k) rfl rfl rfl (by omega)) ?_) | (refine wpList_load_v rfl 84 _ rfl (aT.add (k * 6)) rfl _ hl.out ?_) |
    (refine wpList_store_new rfl 84 _ _ rfl rfl rfl _ Y _ rfl hYs.out.symm hY1.out (by rw [hYs.out]; kernel_rfl) ?_))
   generalize hg:wr.heap.size = g at *
   refine wp_world' (fun wx=>Blk wx g Y 84∧Below w.heap.size w wx) hpre.out ?_
   clear hpre hg hl hkk
   rintro w1 ⟨hG,hb⟩
   have hm1:=(Mod.refl (fun _=>False) w).after hb
   have hlv:=Lib.hid (fun (wx:World) (h:Mod (fun _=>False) w1 wx)=>(by
    rw [load_part (P:=Tryz.prog) wx g Y 84 (hG.mod h (fun h=>h)) 0 5 (by rw [hYs.out]; omega) 59 _ Tryz.underlying59 rfl (by kernel_rfl),hYv.out]:(loadVar 59 ⟨g,0,none⟩).run Tryz.prog wx = .ok (.agg V) wx))
   have hlq:=Lib.hid (fun (wx:World) (h:Mod (fun _=>False) w1 wx)=>run_cellSt ((hG.mod h (fun h=>h)).cell hYq.out))
   have hlt:=Lib.hid (fun (wx:World) (h:Mod (fun _=>False) w1 wx)=>run_cellRq (((hbox.out.mod hm1 (fun h=>h)).mod h (fun h=>h)).cell (i:=0) rfl))
   have hbest:=Lib.hid (fun (wx:World) (h:Mod (fun _=>False) w1 wx)=>hb1.out wx (hb.trans (h.below hb.size (fun _ h=>h.elim))))
   replace hb:=Lib.hid hb
   clear hG hm1 hb1
   refine wp_region_rove (X:=Nat) 0 (fun x=>[(42,.pointer (some ⟨g,0,none⟩)),(43,.agg V),(44,.pointer (some ⟨g,5,none⟩)),(45,.slice qk n dk),(46,.pointer (some ⟨b,0,none⟩)),(47,.pointer (some ⟨b,0,none⟩)),(48,.pointer (some ⟨b,0,none⟩)),(49,.slice qT T dT),(50,.int .i64 req),(51,.tuple #[.agg (tmV B).toArray,.int .i64 be]),(41,.tuple #[.agg (tmV B).toArray,.int .i64 be]),(52,.agg (tmV B).toArray),(53,.int .i64 be),(10,.pointer (some ⟨x,0,none⟩)),(11,.int .i64 be)])
    (fun x d W'=>ClB (tmV (0,0,0)).toArray (tmV B).toArray 114 w1 x (d 13) (d 14) W') (by kernel_rfl) (by kernel_rfl) (by kernel_rfl) (by kernel_rfl) (fun x=>by kernel_rfl)
    ⟨(Mod.refl _ _).drew,(fun h=>by cases h)⟩ ?_ ?_
   ·intro aF hAF
    have E9:∀ x,(aF x).eval (.tmp 9) = .pointer (some ⟨g,0,none⟩):=by intro x; rw [hAF]; kernel_rfl
    have E0:∀ x,(aF x).eval (.tmp 0) = .pointer (some ⟨b,0,none⟩):=by intro x; rw [hAF]; kernel_rfl
    have E1:∀ x,(aF x).eval (.tmp 1) = .int .i64 req:=by intro x; rw [hAF]; kernel_rfl
    have T42:∀ x,(aF x).tmps[42]? = some (.pointer (some ⟨g,0,none⟩)):=by intro x; rw [hAF]; kernel_rfl
    have T43:∀ x,(aF x).tmps[43]? = some (.agg V):=by intro x; rw [hAF]; kernel_rfl
    have T44:∀ x,(aF x).tmps[44]? = some (.pointer (some ⟨g,5,none⟩)):=by intro x; rw [hAF]; kernel_rfl
    have T45:∀ x,(aF x).tmps[45]? = some (.slice qk n dk):=by intro x; rw [hAF]; kernel_rfl
    have T46:∀ x,(aF x).tmps[46]? = some (.pointer (some ⟨b,0,none⟩)):=by intro x; rw [hAF]; kernel_rfl
    have T47:∀ x,(aF x).tmps[47]? = some (.pointer (some ⟨b,0,none⟩)):=by intro x; rw [hAF]; kernel_rfl
    have T48:∀ x,(aF x).tmps[48]? = some (.pointer (some ⟨b,0,none⟩)):=by intro x; rw [hAF]; kernel_rfl
    have T49:∀ x,(aF x).tmps[49]? = some (.slice qT T dT):=by intro x; rw [hAF]; kernel_rfl
    have T50:∀ x,(aF x).tmps[50]? = some (.int .i64 req):=by intro x; rw [hAF]; kernel_rfl
    have T51:∀ x,(aF x).tmps[51]? = some (.tuple #[.agg (tmV B).toArray,.int .i64 be]):=by intro x; rw [hAF]; kernel_rfl
    have T41:∀ x,(aF x).tmps[41]? = some (.tuple #[.agg (tmV B).toArray,.int .i64 be]):=by intro x; rw [hAF]; kernel_rfl
    have T52:∀ x,(aF x).tmps[52]? = some (.agg (tmV B).toArray):=by intro x; rw [hAF]; kernel_rfl
    have T53:∀ x,(aF x).tmps[53]? = some (.int .i64 be):=by intro x; rw [hAF]; kernel_rfl
    have T10:∀ x,(aF x).tmps[10]? = some (.pointer (some ⟨x,0,none⟩)):=by intro x; rw [hAF]; kernel_rfl
    have T11:∀ x,(aF x).tmps[11]? = some (.int .i64 be):=by intro x; rw [hAF]; kernel_rfl
    replace hAF:=Lib.hid hAF
    refine ⟨?_,?_,?_,?_,?_,?_,?_,?_,?_,?_,?_,?_,?_,?_,?_,?_,trivial⟩
    ·exact oq T42 rfl rfl fun x d w' hd hc=>sv (run_fldT rfl (E9 x) (fun _=>by kernel_rfl)) hc
    ·exact oq T43 rfl rfl fun x d w' hd hc=>sv (run_load1 rfl (ev T42 x) (hlv.out _ hc.m)) hc
    ·exact oq T44 rfl rfl fun x d w' hd hc=>sv (run_fldT rfl (E9 x) (fun _=>by kernel_rfl)) hc
    ·exact oq T45 rfl rfl fun x d w' hd hc=>sv (run_load1 rfl (ev T44 x) (hlq.out _ hc.m)) hc
    ·exact oq T46 rfl rfl fun x d w' hd hc=>sv (run_mov rfl (E0 x)) hc
    ·exact oq T47 rfl rfl fun x d w' hd hc=>sv (run_nilP rfl (ev T46 x)) hc
    ·exact oq T48 rfl rfl fun x d w' hd hc=>sv (run_fldT rfl (ev T47 x) (fun _=>by kernel_rfl)) hc
    ·exact oq T49 rfl rfl fun x d w' hd hc=>sv (run_load1 rfl (ev T48 x) (hlt.out _ hc.m)) hc
    ·exact oq T50 rfl rfl fun x d w' hd hc=>sv (run_mov rfl (E1 x)) hc
    ·exact oq T51 rfl rfl fun x d w' hd hc=>sc (run_callBest rfl (ev T43 x) (ev T45 x) (ev T49 x) (ev T50 x)) ((hbest.out w' hc.m).mono fun e w'' h=>⟨h.1,hc.mod ((Mod.refl _ _).after h.2)⟩)
    ·exact oq T41 rfl rfl fun x d w' hd hc=>sv (run_mov rfl (ev T51 x)) hc
    ·exact oq T52 rfl rfl fun x d w' hd hc=>sv (run_ext rfl (ev T41 x) rfl) hc
    ·exact oq T53 rfl rfl fun x d w' hd hc=>sv (run_ext rfl (ev T41 x) rfl) hc
    ·exact opOk3_loud rfl fun x d w' hd hn hc=>by
       have n4:d 14 = false:=hn 14 (by kernel_rfl)
       rw [n4] at hc
       refine sk_v (run_allocW rfl) ?_
       refine ⟨w'.heap.size,(by rw [hAF.out]; exact agree_set 13 (10,.pointer (some ⟨x,0,none⟩)) rfl (by kernel_rfl)),(by intro t hd _; cases hd; exact T10 _),?_⟩
       show ClB _ _ _ w1 _ true (d 14) _
       rw [n4]
       exact hc.box
    ·exact opOk3_loud rfl fun x d w' hd hn hc=>by
       have n2:d 13 = true:=hd 13 (by kernel_rfl)
       rw [n2] at hc
       refine sk_s (run_storeP (ty:=114) rfl (ev T10 x) (ev T52 x) (run_storeVar_row w' x 114 _ (tmV B).toArray 114 (hc.x0 rfl).1 (by cases d 14 <;> rfl) (tm_one _) (by kernel_rfl))) ⟨x,agree_same _ _,(by intro t hd _; cases hd),?_⟩
       show ClB _ _ _ w1 _ (d 13) true _
       rw [n2]
       exact hc.put
    ·exact oq T11 rfl rfl fun x d w' hd hc=>sv (run_asg rfl (ev T53 x)) hc
   ·intro x d w' hd hc
    simp only [putAll,List.foldl_cons,List.foldl_nil,Act.put,List.setIfInBounds_toArray,List.set_cons_succ,List.set_cons_zero]
    rw [hd 13 (by decide),hd 14 (by decide)] at hc
    obtain ⟨hB,hx⟩:=hc.x0 rfl
    have hB:Blk w' x (tmV B).toArray 114:=hB
    have hbw:=hb.out.trans (hc.m.below hb.out.size (fun _ h=>h.elim))
    have k2:=hB.cell (i:=2) (v:=.int .i64 B.2.2) rfl
    have hBl:=Lib.hid hB
    replace hbw:=Lib.hid hbw
    obtain ⟨g1,g2⟩:=hst.out
    clear hc hd hb hlv hlq hlt hbest hst hYs hY1 hYv hYq
    have hld2:=Lib.hid (run_i64 k2)
    by_cases e0:be = 0
    ·subst e0
     obtain ⟨g3,g4⟩:=g2 rfl
     generalize hs:sK k = s at *
     generalize hr:rK k = r at *
     cases s with
     | true=>
      by_cases c4:r≤B.2.2
      ·obtain ⟨f1,f2,f3⟩:=g3 ⟨rfl,c4⟩
       have F1:=Lib.hid f1
       have F2:=Lib.hid f2
       have F3:=Lib.hid f3
       clear f1 f2 f3 g1 g2 g3 g4 hs hr
       go_wp2_with (first | (refine wpList_load_v rfl 3 _ rfl ⟨x,2,none⟩ rfl _ hld2.out ?_))
       go_roundw
       case rel=>exact ⟨k + 1,by omega,by simp,by rw [F1.out],by rw [F2.out],by rw [F3.out],hbw.out⟩
       case measure=>simp [intOf]; omega
      ·obtain ⟨f1,f2,f3⟩:=g4 (.inr (by omega))
       have F1:=Lib.hid f1
       have F2:=Lib.hid f2
       have F3:=Lib.hid f3
       clear f1 f2 f3 g1 g2 g3 g4 hs hr
       go_upto_region 13 with (first | (refine wpList_load_v rfl 3 _ rfl ⟨x,2,none⟩ rfl _ hld2.out ?_))
       go_quiet (fail)
       go_wp2
       go_roundw
       case rel=>exact ⟨k + 1,by omega,by simp,by rw [F1.out],by rw [F2.out],by rw [F3.out],below_drewN hbw.out _⟩
       case measure=>simp [intOf]; omega
     | false=>
      obtain ⟨f1,f2,f3⟩:=g4 (.inl rfl)
      have F1:=Lib.hid f1
      have F2:=Lib.hid f2
      have F3:=Lib.hid f3
      clear f1 f2 f3 g1 g2 g3 g4 hs hr
      go_upto_region 13 with (first | (refine wpList_load_v rfl 3 _ rfl ⟨x,2,none⟩ rfl _ hld2.out ?_))
      go_quiet (fail)
      go_wp2
      go_roundw
      case rel=>exact ⟨k + 1,by omega,by simp,by rw [F1.out],by rw [F2.out],by rw [F3.out],below_drewN hbw.out _⟩
      case measure=>simp [intOf]; omega
    ·have e1:(be == 0) = false:=beq_eq_false_iff_ne.2 e0
     obtain ⟨f1,f2,f3⟩:=g1 e0
     have F1:=Lib.hid f1
     have F2:=Lib.hid f2
     have F3:=Lib.hid f3
     clear f1 f2 f3 g1 g2
     go_wp2_with fail
     go_roundw
     case rel=>exact ⟨k + 1,by omega,by simp,by rw [F1.out],by rw [F2.out],by rw [F3.out],hbw.out⟩
     case measure=>simp [intOf]; omega
  ·obtain rfl:k = fl.length:=by omega
   have hX3:=hX2.out
   replace hb:=Lib.hid hb
   generalize sK fl.length = s at *
   generalize vK fl.length = v at *
   generalize rK fl.length = r at *
   cases s with
   | true=>
    rw [if_pos rfl] at hX3
    replace hX3:=Lib.hid hX3
    clear hX2 hKs' hb0 hld
    go_wp2_with fail
    go_ret3
    rw [hX3.out]
    exact ⟨rfl,hb.out⟩
   | false=>
    rw [if_neg (by simp)] at hX3
    replace hX3:=Lib.hid hX3
    clear hX2 hKs' hb0 hld
    go_wp2_with fail
    go_ret3
    rw [hX3.out]
    exact ⟨rfl,hb.out⟩
end
end
section
section
open Go.RowKit
def ClR (l:Rou2) (p:Addr) (w:World) (x:Option Addr × Nat) (b1 b2:Bool) (W:World):Prop:=
 ∃ W4,Mod (fun _=>False) w W4∧(b1 = true→Els W4 x.1 2 (l.map stV)∧(l.length≤x.2∧x.2≤9223372036854775807)∧(l ≠ []→∀ a,x.1 = some a→w.heap.size≤a.block∧a.block < W4.heap.size))∧
  W = bif b2 then W4.setCell p (.slice x.1 l.length x.2) else W4
theorem ClR.m {l:Rou2} {p:Addr} {w W:World} {x:Option Addr × Nat} {b1:Bool} (h:ClR l p w x b1 false W):Mod (fun _=>False) w W:=by
 obtain ⟨W4,hm,_,rfl⟩:=h
 exact hm
theorem ClR.start {l:Rou2} {p:Addr} {w W:World} {x:Option Addr × Nat} (h:Mod (fun _=>False) w W):ClR l p w x false false W:=⟨W,h,(fun h=>by cases h),rfl⟩
theorem ClR.put {l:Rou2} {p:Addr} {w W:World} {x:Option Addr × Nat} (h:ClR l p w x true false W):ClR l p w x true true (W.setCell p (.slice x.1 l.length x.2)):=by
 obtain ⟨W4,hm,h1,rfl⟩:=h
 exact ⟨W,hm,h1,rfl⟩
theorem els_lt {W:World} {p:Option Addr} {n:Nat} {R:List (List Value)} (h:Els W p (n + 1) R) (h0:R ≠ []) {a:Addr} (ha:p = some a):a.block < W.heap.size:=by
 cases R with
 | nil=>exact absurd rfl h0
 | cons r R=>
  have hl:=h.len r List.mem_cons_self
  have h1:=h.cells a ha 0 r 0 r[0] rfl (List.getElem?_eq_getElem (by omega))
  have h2:=World.block_lt_of_cell? W _ h1
  unfold Addr.add at h2
  split at h2 <;> exact h2
theorem ClR.call {l:Rou2} {p:Addr} {w W W':World} {q:Option Addr} {d:Nat} (hm:Mod (fun _=>False) w W) (hb:Below W.heap.size W W') (hE:Els W' q 2 (l.map stV)) (hc:l.length≤d∧d≤9223372036854775807) (hf:∀ a,q = some a→W.heap.size≤a.block):ClR l p w (q,d) true false W':=
 ⟨W',hm.after hb,fun _=>⟨hE,hc,fun h0 a ha=>⟨Nat.le_trans hm.size (hf a ha),els_lt hE (fun e=>h0 (List.map_eq_nil_iff.1 e)) ha⟩⟩,rfl⟩
theorem opOk3_quietL {P:Program} {ops:Array Oper} {md:Region.Mode} {X:Type} {aF:X→Act} {Cl:X→(Nat→Bool)→World→Prop} {i:Nat} {o:Oper} (v:X→Value) (hv:∀ x t,o.dst = some t→t < (aF x).tmps.size→(aF x).tmps[t]? = some (v x)) (hw:∀ x,Region.wanted o (yielded ops (aF x).tmps) = true)
  (h:∀ x d w,(∀ r,waits md ops i r = true→d r = true)→(∀ c,(lateOf md ops i).contains c = true→d c = false)→Cl x d w→stageUpon P (Cl x (upd d i)) (v x) ((execOp (aF x).eval o).run P w)):OpOk3 P md ops aF Cl i o:=fun x d w hd hn hC=>by
 rw [if_pos (hw x)]
 have hup:=h x d w hd hn hC
 generalize (execOp (aF x).eval o).run P w = r at hup
 cases r with
 | ok n w'=>
  cases n <;> simp only [stageUpon] at hup <;> simp only [upon2]
  case value u=>exact ⟨x,agree_same _ _,by rw [hup.1]; exact hv x,hup.2⟩
  case skip=>exact ⟨x,agree_same _ _,by rw [← hup.1]; exact hv x,hup.2⟩
  case enter f args=>
   refine hup.mono fun e w'' hh=>?_
   exact ⟨_,hh.1,x,agree_same _ _,hv x,hh.2⟩
 | halt x w'=>simp only [stageUpon] at hup
section
variable {ρ:Operand→Value} {o:Oper} {w:World} {x y z u:Operand}
theorem run_callCput {a b c d:Value} (ho:o.op = .call { callee:=.value (.func 28),args:=#[x,y,z,u],argTypes:=#[59,82,38,3] }) (hx:ρ x = a) (hy:ρ y = b) (hz:ρ z = c) (hu:ρ u = d)
  (hf:ρ (.func 28) = .func (.func 28) #[] #[]:=by rfl):(execOp ρ o).run Tryz.prog w = .ok (.enter 28 #[a,b,c,d]) w:=by
 unfold execOp
 simp only [ho]
 go_simp
theorem run_storeS {p:Addr} {q:Option Addr} {m c:Nat} {v:Value} (ho:o.op = .store 82 x y) (hx:ρ x = .pointer (some p)) (hy:ρ y = .slice q m c) (hc:w.cell? p = some v) (hf:w.frozen? p = false):
  (execOp ρ o).run Tryz.prog w = .ok .skip (w.setCell p (.slice q m c)):=by
 unfold execOp
 simp only [ho,hx,hy]
 go_simp
end
theorem addr_offP (g o n:Nat):(⟨g,o,none⟩:Addr).add n = ⟨g,o + n,none⟩:=by unfold Addr.add; split <;> simp_all
theorem run_ixTr0 {ρ:Operand→Value} {o:Oper} {w:World} {x y:Operand} {g n c k:Nat} (ho:o.op = .indexAddr 85 x y) (hx:ρ x = .slice (some ⟨g,0,none⟩) n c) (hy:ρ y = .int .i64 k) (hk:k < n):(execOp ρ o).run Tryz.prog w = .ok (.value (.pointer (some ⟨g,k * 6,none⟩))) w:=by
 have:=run_ixTr (w:=w) ho hx hy hk
 rwa [addr0P] at this
theorem exec_mapUP {P:Program} {ρ:Operand→Value} {o:Oper} {w w':World} {x y z:Operand} {t:TypeId} {b:Nat} {i v:Int} (ho:o.op = .mapUpdate t x y z) (hx:ρ x = .map (some b)) (hy:ρ y = .int .i64 i) (hz:ρ z = .int .i64 v)
  (hrun:(Instr.mapUpdate t (.map (some b)) (.int .i64 i) (.int .i64 v)).run P w = .ok () w'):(execOp ρ o).run P w = .ok .skip w':=by
 simp [execOp,ho,hx,hy,hz,hrun,Result.andThen]
theorem wf_small {n:Nat} (h:n≤1000):wf64 (n:Int):=by unfold wf64; omega
theorem put_no_calls {w:World} {F:Nat→Prop} {b gT gM N:Nat} {fl:List Ve} {rows:List Rou2} {t:List Rq} (h:PlanAt w F b gT gM N fl rows t) (req:Int) (hq:wf64 req) (he:(prcP fl rows t req).2.2 ≠ 0):
  Calls Tryz.prog 11 #[.pointer (some ⟨b,0,none⟩),.int .i64 req] w fun e w'=>e = .returned (.tuple #[.int .i64 0,.int .i64 (prcP fl rows t req).2.2])∧Below w.heap.size w w':=by
 have hp:=Lib.hid (price_calls h req hq)
 obtain ⟨x,y,e,hX⟩:∃ x y e,prcP fl rows t req = (x,y,e):=⟨_,_,_,rfl⟩
 rw [hX] at hp he ⊢
 dsimp only at hp he ⊢
 have d1:(e == 0) = false:=beq_eq_false_iff_ne.2 he
 clear h hX
 go_enter Tryz.func11,Tryz.ntmps11
 go_wp2_with fail
 refine hp.out.mono ?_
 rintro e w1 ⟨rfl,hb⟩
 replace hb:=Lib.hid hb
 go_wp2_with fail
 go_ret2
 exact ⟨rfl,hb.out⟩
theorem pput_calls {w:World} {F:Nat→Prop} {b gT gM N:Nat} {fl:List Ve} {rows:List Rou2} {t:List Rq} (hP:PlnOk fl rows t) (h:PlanAt w F b gT gM N fl rows t) (hN:N < 1000000) (req:Int) (hq:wf64 req):
  Calls Tryz.prog 11 #[.pointer (some ⟨b,0,none⟩),.int .i64 req] w fun e w'=>e = .returned (.tuple #[.int .i64 (pputP fl rows t req).2.1,.int .i64 (pputP fl rows t req).2.2])∧
   PlanAt w' (fun k=>F k∨(w.heap.size≤k∧k < w'.heap.size)) b gT gM (N + 1) fl (pputP fl rows t req).1 t∧Mod (fun k=>k = gT∨k = gM) w w':=by
 by_cases he:(prcP fl rows t req).2.2 ≠ 0
 ·rw [put_no he]
  refine (put_no_calls h req hq he).mono ?_
  rintro e w' ⟨rfl,hb⟩
  refine ⟨rfl,?_,(Mod.refl _ _).after hb⟩
  obtain ⟨qT,dT,cT,qs,h⟩:=h.below hb
  exact ⟨qT,dT,cT,qs,h.box,h.req,h.tb,h.tours,h.map.mono (by omega),h.row,h.cap,fun i a ha hr=>by have:=h.rowB i a ha hr; exact ⟨.inl this.1,this.2⟩,fun a ha hr=>by have:=h.reqB a ha hr; exact ⟨.inl this.1,this.2⟩,.inl h.fb,.inl h.fT,.inl h.fM,
   h.ne1,h.ne2,h.ne3,fun k hk=>by rcases hk with hk | hk; exact h.lt k hk; exact hk.2,h.len,h.lenq,h.many,h.tcap⟩
 have he0:(prcP fl rows t req).2.2 = 0:=by omega
 have hpr:=Lib.hid (price_calls h req hq)
 have hkeep:=put_keeps hP req
 obtain ⟨i,a,c,hi,hac,hcl,hl14,hr,hwh,hR,hrn,hcp,hpp,hpu⟩:=put_ok hP he0
 rw [hpp] at hpr
 rw [hpu] at hkeep ⊢
 dsimp only at hpr hkeep ⊢
 have hwm:=whM_put hP hi hac hcl hwh hkeep
 have hrl:(withL (rows.getD i []) req a c).length≤16:=by rw [withL_len _ _ hac hcl]; omega
 generalize hL:withL (rows.getD i []) req a c = L at *
 generalize hrs:riseV (fl.getD i ve0) (rows.getD i []) t req a c = rs at *
 obtain ⟨qT,dT,cT,qs,h⟩:=h
 have hput:=Lib.hid (fun wx (hb:Below w.heap.size w wx)=>cput_calls (fl.getD i ve0 0) (fl.getD i ve0 1) (fl.getD i ve0 2) (fl.getD i ve0 3) (fl.getD i ve0 4) req (qs.getD i (none,0)).1 qT (qs.getD i (none,0)).2 dT (rows.getD i []) t wx ((h.row i).below hb) (h.cap i).1 (h.req.below hb))
 have hput':∀ wx,Below w.heap.size w wx→Calls Tryz.prog 28 #[.agg (veR (fl.getD i ve0)).toArray,.slice (qs.getD i (none,0)).1 (rows.getD i []).length (qs.getD i (none,0)).2,.slice qT t.length dT,.int .i64 req] wx (CpPost wx (L,rs,0)):=fun wx hb=>by
  have:=hput.out wx hb
  unfold cputV at hcp
  rw [hcp] at this
  exact this
 unfold CpPost at hput'
 dsimp only at hput'
 replace hput:=Lib.hid hput'
 clear hput'
 have hto:=h.tours
 have hfl:=h.many.1
 have hlen:i < (trs fl rows qs).length:=by rw [trs_len]; exact hi
 have hT0:=h.lt gT h.fT
 have hM0:=h.lt gM h.fM
 have hcell:=fun wx (hb:Mod (fun _=>False) w wx) (j:Nat) (v:Value) (hj:(trV (fl.getD i ve0) (qs.getD i (none,0)) (rows.getD i []).length)[j]? = some v)=>(by
  have:=(els_modP hto hb (fun _ _ _ h=>h)).cells _ rfl i _ j v (trs_at fl rows qs hi) hj
  rwa [addr0P] at this:wx.cell? ⟨gT,i * 6 + j,none⟩ = some v)
 have hfz:=Lib.hid (fun wx (hb:Mod (fun _=>False) w wx)=>(by obtain ⟨C,hC⟩:=h.tb; exact (hC.mod hb (fun h=>h)).froz (i * 6 + 5):wx.frozen? ⟨gT,i * 6 + 5,none⟩ = false))
 have hk5:=Lib.hid (fun wx (hb:Mod (fun _=>False) w wx)=>hcell wx hb 5 _ rfl)
 have hlv:=Lib.hid (fun wx (hb:Mod (fun _=>False) w wx)=>run_loadVar_at (P:=Tryz.prog) wx ⟨gT,i * 6,none⟩ 59 (veR (fl.getD i ve0)) _ (fun j v hj=>(by
  rw [addr_offP]
  refine hcell wx hb j v ?_
  match j with
  | 0=>exact hj
  | 1=>exact hj
  | 2=>exact hj
  | 3=>exact hj
  | 4=>exact hj
  | j + 5=>simp [veR] at hj)) Tryz.underlying59 rfl (by kernel_rfl))
 have hlq:=Lib.hid (fun wx (hb:Mod (fun _=>False) w wx)=>run_cellSt (hk5.out wx hb))
 have hlt:=Lib.hid (fun wx (hb:Mod (fun _=>False) w wx)=>run_cellRq ((h.box.mod hb (fun h=>h)).cell (i:=0) rfl))
 have hk1:=Lib.hid (fun wx (hb:Mod (fun _=>False) w wx)=>(h.box.mod hb (fun h=>h)).cell (i:=1) rfl)
 have hk2:=Lib.hid (fun wx (hb:Mod (fun _=>False) w wx)=>(h.box.mod hb (fun h=>h)).cell (i:=2) rfl)
 have hwf:=wf_small (show i≤1000 by omega)
 have hH:=Lib.hid h
 have hset:=Lib.hid (fun (C:Array Value) (wx:World) (hb:Mod (fun _=>False) w wx) (hB:Blk wx gT C 84) q d=>(by
  have:=els_setP hB (els_modP hto hb (fun _ _ _ h=>h)) hlen (J:=5) (by omega) (.slice q L.length d)
  rwa [trs_set fl rows qs hi h.len h.lenq L q d hlen] at this:Els (wx.setCell ⟨gT,i * 6 + 5,none⟩ (.slice q L.length d)) (some ⟨gT,0,none⟩) 6 (trs fl (rows.set i L) (qs.set i (q,d)))))
 have hbg:b ≠ gT∧b ≠ gM∧gT ≠ gM:=⟨h.ne1,h.ne2,h.ne3⟩
 generalize (veR (fl.getD i ve0)).toArray = V at *
 generalize (rows.getD i []).length = n at *
 generalize (qs.getD i (none,0)).1 = qi at *
 generalize (qs.getD i (none,0)).2 = di at *
 generalize hTT:t.length = T at *
 replace hTT:=Lib.hid hTT
 replace hwm:=Lib.hid hwm
 replace hcell:=Lib.hid hcell
 clear h hto hlen hcl hrl hR hcp hpp hpu hkeep hwh hl14 hr hP he he0 hcell
 go_enter Tryz.func11,Tryz.ntmps11
 go_wp2_with fail
 refine hpr.out.mono ?_
 rintro e w1 ⟨rfl,hb1⟩
 have hm1:=(Mod.refl (fun _=>False) w).after hb1
 have k1:=hk1.out w1 hm1
 replace hm1:=Lib.hid hm1
 clear hpr hb1
 go_upto_region 5 with (refine wpList_v rfl (.pointer (some ⟨gT,i * 6,none⟩)) (run_ixTr0 (k:=i) rfl rfl rfl hi) ?_)
 refine wp_region_rove (X:=Option Addr × Nat) (none,0) (fun x=>[(25,.pointer (some ⟨gT,i * 6,none⟩)),(26,.pointer (some ⟨gT,i * 6,none⟩)),(27,.pointer (some ⟨gT,i * 6,none⟩)),(28,.pointer (some ⟨gT,i * 6,none⟩)),(29,.agg V),(30,.pointer (some ⟨gT,i * 6,none⟩)),(31,.pointer (some ⟨gT,i * 6,none⟩)),(32,.pointer (some ⟨gT,i * 6 + 5,none⟩)),(33,.slice qi n di),(34,.pointer (some ⟨b,0,none⟩)),(35,.pointer (some ⟨b,0,none⟩)),(36,.pointer (some ⟨b,0,none⟩)),(37,.slice qT T dT),(38,.int .i64 req),(41,.int .i64 rs),(42,.int .i64 0),(43,.pointer (some ⟨gT,i * 6,none⟩)),(44,.pointer (some ⟨gT,i * 6 + 5,none⟩)),(4,.int .i64 rs),(5,.int .i64 0)] ++ [(39,.tuple #[.slice x.1 L.length x.2,.int .i64 rs,.int .i64 0]),(24,.tuple #[.slice x.1 L.length x.2,.int .i64 rs,.int .i64 0]),(40,.slice x.1 L.length x.2)])
  (fun x d W'=>ClR L ⟨gT,i * 6 + 5,none⟩ w x (d 14) (d 21) W') (by kernel_rfl) (by kernel_rfl) (by kernel_rfl) (by kernel_rfl) (fun x=>by kernel_rfl)
  (ClR.start hm1.out.drew) ?_ ?_
 ·intro aF hAF
  have E0:∀ x,(aF x).eval (.tmp 0) = .pointer (some ⟨b,0,none⟩):=by intro x; rw [hAF]; kernel_rfl
  have E1:∀ x,(aF x).eval (.tmp 1) = .int .i64 req:=by intro x; rw [hAF]; kernel_rfl
  have E7:∀ x,(aF x).eval (.tmp 7) = .pointer (some ⟨gT,i * 6,none⟩):=by intro x; rw [hAF]; kernel_rfl
  have T25:∀ x,(aF x).tmps[25]? = some (.pointer (some ⟨gT,i * 6,none⟩)):=by intro x; rw [hAF]; kernel_rfl
  have T26:∀ x,(aF x).tmps[26]? = some (.pointer (some ⟨gT,i * 6,none⟩)):=by intro x; rw [hAF]; kernel_rfl
  have T27:∀ x,(aF x).tmps[27]? = some (.pointer (some ⟨gT,i * 6,none⟩)):=by intro x; rw [hAF]; kernel_rfl
  have T28:∀ x,(aF x).tmps[28]? = some (.pointer (some ⟨gT,i * 6,none⟩)):=by intro x; rw [hAF]; kernel_rfl
  have T29:∀ x,(aF x).tmps[29]? = some (.agg V):=by intro x; rw [hAF]; kernel_rfl
  have T30:∀ x,(aF x).tmps[30]? = some (.pointer (some ⟨gT,i * 6,none⟩)):=by intro x; rw [hAF]; kernel_rfl
  have T31:∀ x,(aF x).tmps[31]? = some (.pointer (some ⟨gT,i * 6,none⟩)):=by intro x; rw [hAF]; kernel_rfl
  have T32:∀ x,(aF x).tmps[32]? = some (.pointer (some ⟨gT,i * 6 + 5,none⟩)):=by intro x; rw [hAF]; kernel_rfl
  have T33:∀ x,(aF x).tmps[33]? = some (.slice qi n di):=by intro x; rw [hAF]; kernel_rfl
  have T34:∀ x,(aF x).tmps[34]? = some (.pointer (some ⟨b,0,none⟩)):=by intro x; rw [hAF]; kernel_rfl
  have T35:∀ x,(aF x).tmps[35]? = some (.pointer (some ⟨b,0,none⟩)):=by intro x; rw [hAF]; kernel_rfl
  have T36:∀ x,(aF x).tmps[36]? = some (.pointer (some ⟨b,0,none⟩)):=by intro x; rw [hAF]; kernel_rfl
  have T37:∀ x,(aF x).tmps[37]? = some (.slice qT T dT):=by intro x; rw [hAF]; kernel_rfl
  have T38:∀ x,(aF x).tmps[38]? = some (.int .i64 req):=by intro x; rw [hAF]; kernel_rfl
  have T41:∀ x,(aF x).tmps[41]? = some (.int .i64 rs):=by intro x; rw [hAF]; kernel_rfl
  have T42:∀ x,(aF x).tmps[42]? = some (.int .i64 0):=by intro x; rw [hAF]; kernel_rfl
  have T43:∀ x,(aF x).tmps[43]? = some (.pointer (some ⟨gT,i * 6,none⟩)):=by intro x; rw [hAF]; kernel_rfl
  have T44:∀ x,(aF x).tmps[44]? = some (.pointer (some ⟨gT,i * 6 + 5,none⟩)):=by intro x; rw [hAF]; kernel_rfl
  have T4:∀ x,(aF x).tmps[4]? = some (.int .i64 rs):=by intro x; rw [hAF]; kernel_rfl
  have T5:∀ x,(aF x).tmps[5]? = some (.int .i64 0):=by intro x; rw [hAF]; kernel_rfl
  have T39:∀ x,(aF x).tmps[39]? = some (.tuple #[.slice x.1 L.length x.2,.int .i64 rs,.int .i64 0]):=by intro x; rw [hAF]; kernel_rfl
  have T24:∀ x,(aF x).tmps[24]? = some (.tuple #[.slice x.1 L.length x.2,.int .i64 rs,.int .i64 0]):=by intro x; rw [hAF]; kernel_rfl
  have T40:∀ x,(aF x).tmps[40]? = some (.slice x.1 L.length x.2):=by intro x; rw [hAF]; kernel_rfl
  replace hAF:=Lib.hid hAF
  refine ⟨?_,?_,?_,?_,?_,?_,?_,?_,?_,?_,?_,?_,?_,?_,?_,?_,?_,?_,?_,?_,?_,?_,?_,?_,trivial⟩
  ·exact oq T25 rfl rfl fun x d w' hd hc=>sv (run_mov rfl (E7 x)) hc
  ·exact oq T26 rfl rfl fun x d w' hd hc=>sv (run_mov rfl (E7 x)) hc
  ·exact oq T27 rfl rfl fun x d w' hd hc=>sv (run_nilP rfl (ev T26 x)) hc
  ·exact oq T28 rfl rfl fun x d w' hd hc=>sv (run_fldT rfl (ev T27 x) (fun _=>by kernel_rfl)) hc
  ·exact opOk3_quietL _ (by intro x t hd _; cases hd; exact T29 x) (fun _=>rfl) fun x d w' hd hn hc=>sv (run_load1 rfl (ev T28 x) (hlv.out _ (ClR.m (by have n:=hn 21 (by kernel_rfl); rw [n] at hc; exact hc)))) hc
  ·exact oq T30 rfl rfl fun x d w' hd hc=>sv (run_mov rfl (E7 x)) hc
  ·exact oq T31 rfl rfl fun x d w' hd hc=>sv (run_nilP rfl (ev T30 x)) hc
  ·exact oq T32 rfl rfl fun x d w' hd hc=>sv (run_fldT rfl (ev T31 x) (fun _=>by kernel_rfl)) hc
  ·exact opOk3_quietL _ (by intro x t hd _; cases hd; exact T33 x) (fun _=>rfl) fun x d w' hd hn hc=>sv (run_load1 rfl (ev T32 x) (hlq.out _ (ClR.m (by have n:=hn 21 (by kernel_rfl); rw [n] at hc; exact hc)))) hc
  ·exact oq T34 rfl rfl fun x d w' hd hc=>sv (run_mov rfl (E0 x)) hc
  ·exact oq T35 rfl rfl fun x d w' hd hc=>sv (run_nilP rfl (ev T34 x)) hc
  ·exact oq T36 rfl rfl fun x d w' hd hc=>sv (run_fldT rfl (ev T35 x) (fun _=>by kernel_rfl)) hc
  ·exact opOk3_quietL _ (by intro x t hd _; cases hd; exact T37 x) (fun _=>rfl) fun x d w' hd hn hc=>sv (run_load1 rfl (ev T36 x) (hlt.out _ (ClR.m (by have n:=hn 21 (by kernel_rfl); rw [n] at hc; exact hc)))) hc
  ·exact oq T38 rfl rfl fun x d w' hd hc=>sv (run_mov rfl (E1 x)) hc
  ·exact opOk3_loud rfl fun x d w' hd hn hc=>by
     have n2:d 21 = false:=hn 21 (by kernel_rfl)
     rw [n2] at hc
     have hm:=hc.m
     refine sk (run_callCput rfl (ev T29 x) (ev T33 x) (ev T37 x) (ev T38 x)) ((hput.out w' (hm.below (Nat.le_refl _) (fun _ h=>h.elim))).mono ?_)
     rintro e w'' ⟨⟨q,dd,rfl,h2,h3,h4⟩,hb⟩
     refine ⟨_,rfl,(q,dd),(by rw [hAF.out]; exact agree_any (by kernel_rfl) (by kernel_rfl)),(by intro t hd _; cases hd; exact T39 _),?_⟩
     show ClR L _ w _ true (d 21) _
     rw [n2]
     exact ClR.call hm hb h3 h2 h4
  ·exact oq T24 rfl rfl fun x d w' hd hc=>sv (run_mov rfl (ev T39 x)) hc
  ·exact oq T40 rfl rfl fun x d w' hd hc=>sv (run_ext rfl (ev T24 x) rfl) hc
  ·exact oq T41 rfl rfl fun x d w' hd hc=>sv (run_ext rfl (ev T24 x) rfl) hc
  ·exact oq T42 rfl rfl fun x d w' hd hc=>sv (run_ext rfl (ev T24 x) rfl) hc
  ·exact oq T43 rfl rfl fun x d w' hd hc=>sv (run_nilP rfl (ev T25 x)) hc
  ·exact oq T44 rfl rfl fun x d w' hd hc=>sv (run_fldT rfl (ev T43 x) (fun _=>by kernel_rfl)) hc
  ·exact opOk3_loud rfl fun x d w' hd hn hc=>by
     have n1:d 14 = true:=hd 14 (by kernel_rfl)
     have n2:d 21 = false:=hn 21 (by kernel_rfl)
     rw [n1,n2] at hc
     have hm:=hc.m
     refine sk_s (run_storeS rfl (ev T44 x) (ev T40 x) (hk5.out w' hm) (hfz.out w' hm)) ⟨x,agree_same _ _,(by intro t hd _; cases hd),?_⟩
     show ClR L _ w _ (d 14) true _
     rw [n1]
     exact hc.put
  ·exact oq T4 rfl rfl fun x d w' hd hc=>sv (run_asg rfl (ev T41 x)) hc
  ·exact oq T5 rfl rfl fun x d w' hd hc=>sv (run_asg rfl (ev T42 x)) hc
 ·intro x d w' hd hc
  simp only [putAll,List.foldl_cons,List.foldl_nil,List.cons_append,List.nil_append,Act.put,List.setIfInBounds_toArray,List.set_cons_succ,List.set_cons_zero]
  rw [hd 14 (by decide),hd 21 (by decide)] at hc
  obtain ⟨W4,hm4,hx,hW5⟩:=hc
  obtain ⟨q,dq⟩:=x
  obtain ⟨hE,hcap,hf⟩:=hx rfl
  dsimp only at hE hcap hf hW5 ⊢
  replace hW5:w' = W4.setCell ⟨gT,i * 6 + 5,none⟩ (.slice q L.length dq):=hW5
  have hm5:=(Mod.refl (· = gT) W4).setCell (p:=⟨gT,i * 6 + 5,none⟩) (fun _=>rfl) (.slice q L.length dq)
  rw [← hW5] at hm5
  obtain ⟨C,hC⟩:=hH.out.tb
  have hC4:=hC.mod hm4 (fun h=>h)
  have hT5:=hset.out C W4 hm4 hC4 q dq
  have hC5:=hC4.set (i * 6 + 5) (.slice q L.length dq)
  rw [← hW5] at hT5 hC5
  have hM5:=(hH.out.map.mod hm4 (fun h=>h)).mod hm5 (fun e=>hbg.2.2 e.symm)
  obtain ⟨w6,hrun,hM6,hm6⟩:=hM5.update Tryz.underlying3 Tryz.underlying3 (t:=86) Tryz.underlying86 (by unfold maxLen; omega) hq hwf
  rw [← hwm.out] at hM6
  have k2:w'.cell? ⟨b,2,none⟩ = some (.map (some gM)):=hm5.cell_of (fun e=>hbg.1 e) (hk2.out W4 hm4)
  have hall:Mod (fun k=>k = gT∨k = gM) w w6:=((hm4.mono (fun _ _ h=>h.elim)).trans (hm5.mono (fun _ _ h=>.inl h))).trans (hm6.mono (fun _ _ h=>.inr h))
  have hfin:=Lib.hid (hH.out.next (N':=N + 1) (i:=i) (l:=L) (q:=q) (d:=dq) hall hi (els_modP hT5 hm6 (fun a ha _ e=>(by cases ha; exact hbg.2.2 e))) ⟨_,hC5.mod hm6 (fun e=>hbg.2.2 e)⟩ hM6
   (els_modP (els_modP hE hm5 (fun a ha h0 e=>(by have:=hf (fun h=>h0 (by rw [h]; rfl)) a ha; have:a.block = gT:=e; omega))) hm6 (fun a ha h0 e=>(by have:=hf (fun h=>h0 (by rw [h]; rfl)) a ha; have:a.block = gM:=e; omega)))
   hcap (fun h0 a ha=>⟨(hf h0 a ha).1,Nat.lt_of_lt_of_le (hf h0 a ha).2 (Nat.le_trans hm5.size hm6.size)⟩))
  replace hall:=Lib.hid hall
  replace hrun:=Lib.hid hrun
  clear hE hcap hf hW5 hm5 hC hC4 hT5 hC5 hM5 hM6 hm6 hm4 hx hd hH hset hlv hlq hlt hk1 hk2 hk5 hfz hput hwm
  go_wp2_with (refine wpList_sw rfl rfl (exec_mapUP rfl rfl rfl rfl hrun.out) ?_)
  go_ret2
  exact ⟨rfl,⟨qT,dT,cT,_,by rw [← hTT.out] at *; exact hfin.out⟩,hall.out⟩
end
end
section
section
open Go.RowKit
section
variable {ρ:Operand→Value} {o:Oper} {w:World} {x y z u:Operand}
theorem run_callTimes {a b c:Value} (ho:o.op = .call { callee:=.value (.func 42),args:=#[x,y,z],argTypes:=#[59,82,38] }) (hx:ρ x = a) (hy:ρ y = b) (hz:ρ z = c)
  (hf:ρ (.func 42) = .func (.func 42) #[] #[]:=by rfl):(execOp ρ o).run Tryz.prog w = .ok (.enter 42 #[a,b,c]) w:=by
 unfold execOp
 simp only [ho]
 go_simp
end
theorem totV_bd {v:Ve} {l:Rou2} {t:List Rq} (h:RightV v l t):0≤totV v l t∧totV v l t≤1048576∧(0≤v 3∧v 3≤1048576)∧(timV v l t).2.2 = 0:=by
 obtain ⟨h0,h1,h2,h3,h4,_⟩:=tm_right h
 unfold totV timV
 omega
theorem totK_bd {fl:List Ve} {rows:List Rou2} {t:List Rq} (hP:PlnOk fl rows t):∀ k,k≤fl.length→0≤totK fl rows t k∧totK fl rows t k≤1048576 * (k:Int)
 | 0,_=>by simp [totK]
 | k + 1,h=>by
  have h1:=totK_bd hP k (by omega)
  have h2:=totV_bd (hP.right k (by omega))
  unfold totK
  omega
theorem total_calls {w:World} {F:Nat→Prop} {b gT gM N:Nat} {fl:List Ve} {rows:List Rou2} {t:List Rq} (hP:PlnOk fl rows t) (h:PlanAt w F b gT gM N fl rows t):
  Calls Tryz.prog 21 #[.pointer (some ⟨b,0,none⟩)] w fun e w'=>e = .returned (.int .i64 (totP fl rows t))∧Below w.heap.size w w':=by
 obtain ⟨qT,dT,cT,qs,h⟩:=h
 have hb0:=Lib.hid (fun k wx (hb:Below w.heap.size w wx)=>times_calls (fl.getD k ve0 0) (fl.getD k ve0 1) (fl.getD k ve0 2) (fl.getD k ve0 3) (fl.getD k ve0 4) (qs.getD k (none,0)).1 qT (qs.getD k (none,0)).2 dT (rows.getD k []) t wx ((h.row k).below hb) (h.req.below hb))
 have hstp:=Lib.hid (fun k (hk:k < fl.length)=>(⟨totV_bd (hP.right k hk),totK_bd hP k (by omega)⟩:(_∧_)))
 have hfl:=h.many.1
 have htb:=h.req.big
 rw [List.length_map] at htb
 have hbox:=h.box
 obtain ⟨aT,haT⟩:∃ aT:Addr,(⟨gT,0,none⟩:Addr) = aT:=⟨_,rfl⟩
 have hto:=h.tours
 rw [haT] at hbox hto
 have hld:=Lib.hid (fun k (hk:k < fl.length) wx (hb:Below w.heap.size w wx)=>ld_tour (hto.below hb) hk)
 obtain ⟨tot,htot0,htotS,htotE⟩:∃ tot:Nat→Int,tot 0 = 0∧(∀ k,tot (k + 1) = tot k + totV (fl.getD k ve0) (rows.getD k []) t∧tot k = totK fl rows t k)∧totP fl rows t = tot fl.length:=⟨totK fl rows t,rfl,fun _=>⟨rfl,rfl⟩,rfl⟩
 rw [htotE]
 have k1:=hbox.cell (i:=1) rfl
 replace htotS:=Lib.hid htotS
 replace htot0:=Lib.hid htot0
 replace hbox:=Lib.hid hbox
 generalize hTT:t.length = T at *
 replace hTT:=Lib.hid hTT
 clear h hto haT htotE hP
 go_enter Tryz.func21,Tryz.ntmps21
 go_wp2_with fail
 go_loopw [15,2] (fun s15 s2 wx=>∃ k:Nat,k≤fl.length∧s15 = .int .i64 k∧s2 = .int .i64 (tot k)∧Below w.heap.size w wx) (fun s15 _ _=>fl.length - (intOf s15).toNat)
 case atStart=>exact ⟨0,Nat.zero_le _,rfl,by rw [htot0.out],Below.refl _ _⟩
 case round=>
  obtain ⟨k,hk,rfl,rfl,hb⟩:=hrel
  by_cases hlt:k < fl.length
  ·have hltI:(k:Int) < (fl.length:Int):=by omega
   have hk0:(0:Int)≤(k:Int):=by omega
   have s1:IntKind.i64.wrap ((k:Int) + 1) = (k:Int) + 1:=IntWalk.i64_in _ (by omega)
   have hl:=hld.out k hlt wr hb
   obtain ⟨V,hV⟩:∃ V,(veR (fl.getD k ve0)).toArray = V:=⟨_,rfl⟩
   obtain ⟨Y,hY⟩:∃ Y,(trV (fl.getD k ve0) (qs.getD k (none,0)) (rows.getD k []).length).toArray = Y:=⟨_,rfl⟩
   have hYs:Y.size = 6:=by rw [← hY]; rfl
   have hY1:∀ u ∈ Y.toList,u.oneCell' = true:=by rw [← hY]; exact tr_one _ _ _
   have hYv:Y.extract 0 (0 + 5) = V:=by rw [← hY,← hV]; rfl
   have hYq:Y[5]? = some (.slice (qs.getD k (none,0)).1 (rows.getD k []).length (qs.getD k (none,0)).2):=by rw [← hY]; rfl
   have hY3:Y[3]? = some (.int .i64 (fl.getD k ve0 3)):=by rw [← hY]; rfl
   have hb1:=hb0.out k
   change ∀ wx,Below w.heap.size w wx→Calls Tryz.prog 42 #[.agg (veR (fl.getD k ve0)).toArray,_,_] wx (TmPost wx (timV (fl.getD k ve0) (rows.getD k []) t)) at hb1
   rw [hV] at hb1
   rw [hY] at hl
   obtain ⟨⟨p1,p2,p3,p4⟩,p5⟩:=hstp.out k hlt
   obtain ⟨f1,f2⟩:=htotS.out k
   rw [← f2] at p5
   unfold totV at p1 p2 f1
   generalize fl.getD k ve0 3 = v3 at *
   clear hY hV
   obtain ⟨L,en,e0,hBe⟩:∃ L en e0,timV (fl.getD k ve0) (rows.getD k []) t = (L,en,e0):=⟨_,_,_,rfl⟩
   rw [hBe] at hb1 p1 p2 p4 f1
   dsimp only at hb1 p1 p2 p4 f1
   clear hBe
   generalize (qs.getD k (none,0)).1 = qk at *
   generalize (qs.getD k (none,0)).2 = dk at *
   generalize (rows.getD k []).length = n at *
   have hpre:=Lib.hid (show Blk (wr.alloc (.cells Y 84)) wr.heap.size Y 84∧Below w.heap.size w (wr.alloc (.cells Y 84)) from ⟨Blk.new _ _ _,hb.alloc hb.size _⟩)
   have hsz:=hb.size
   have s2:IntKind.i64.wrap (en - v3) = en - v3:=IntWalk.i64_in _ (by omega)
   have s3:IntKind.i64.wrap (tot k + (en - v3)) = tot k + (en - v3):=IntWalk.i64_in _ (by omega)
   have F1:=Lib.hid f1
   replace hl:=Lib.hid hl
   replace hYs:=Lib.hid hYs
   replace hY1:=Lib.hid hY1
   replace hYv:=Lib.hid hYv
   replace hYq:=Lib.hid hYq
   replace hY3:=Lib.hid hY3
   replace hb1:=Lib.hid hb1
   replace p4:=Lib.hid p4
   clear hb f1 f2
   go_upto_region 6 with (first | (refine wpList_v rfl (.pointer (some (aT.add (k * 6)))) (run_ixTr (k:=k) rfl rfl rfl (by omega)) ?_) | (refine wpList_load_v rfl 84 _ rfl (aT.add (k * 6)) rfl _ hl.out ?_) |
    (refine wpList_store_new rfl 84 _ _ rfl rfl rfl _ Y _ rfl hYs.out.symm hY1.out (by rw [hYs.out]; kernel_rfl) ?_))
   generalize hg:wr.heap.size = g at *
   refine wp_world' (fun wx=>Blk wx g Y 84∧Below w.heap.size w wx) hpre.out ?_
   clear hpre hg hl
   rintro w1 ⟨hG,hb⟩
   have hm1:=(Mod.refl (fun _=>False) w).after hb
   have hlv:=Lib.hid (fun (wx:World) (h:Mod (fun _=>False) w1 wx)=>(by
    rw [load_part (P:=Tryz.prog) wx g Y 84 (hG.mod h (fun h=>h)) 0 5 (by rw [hYs.out]; omega) 59 _ Tryz.underlying59 rfl (by kernel_rfl),hYv.out]:(loadVar 59 ⟨g,0,none⟩).run Tryz.prog wx = .ok (.agg V) wx))
   have hlq:=Lib.hid (fun (wx:World) (h:Mod (fun _=>False) w1 wx)=>run_cellSt ((hG.mod h (fun h=>h)).cell hYq.out))
   have hlt:=Lib.hid (fun (wx:World) (h:Mod (fun _=>False) w1 wx)=>run_cellRq (((hbox.out.mod hm1 (fun h=>h)).mod h (fun h=>h)).cell (i:=0) rfl))
   have hbest:=Lib.hid (fun (wx:World) (h:Mod (fun _=>False) w1 wx)=>hb1.out wx (hb.trans (h.below hb.size (fun _ h=>h.elim))))
   have hk3:=Lib.hid (fun (wx:World) (h:Mod (fun _=>False) w1 wx)=>(hG.mod h (fun h=>h)).cell hY3.out)
   replace hb:=Lib.hid hb
   clear hG hm1 hb1
   refine wp_region_rove (X:=Option Addr × Nat) (none,0) (fun x=>[(20,.pointer (some ⟨g,0,none⟩)),(21,.agg V),(22,.pointer (some ⟨g,5,none⟩)),(23,.slice qk n dk),(24,.pointer (some ⟨b,0,none⟩)),(25,.pointer (some ⟨b,0,none⟩)),(26,.pointer (some ⟨b,0,none⟩)),(27,.slice qT T dT),(30,.int .i64 en),(31,.int .i64 e0),(6,.int .i64 en),(7,.int .i64 e0)] ++ [(28,.tuple #[.slice x.1 L.length x.2,.int .i64 en,.int .i64 e0]),(19,.tuple #[.slice x.1 L.length x.2,.int .i64 en,.int .i64 e0]),(29,.slice x.1 L.length x.2),(5,.slice x.1 L.length x.2)])
    (fun x d W'=>Mod (fun _=>False) w1 W') (by kernel_rfl) (by kernel_rfl) (by kernel_rfl) (by kernel_rfl) (fun x=>by kernel_rfl)
    (Mod.refl _ _).drew ?_ ?_
   ·intro aF hAF
    have E0:∀ x,(aF x).eval (.tmp 0) = .pointer (some ⟨b,0,none⟩):=by intro x; rw [hAF]; kernel_rfl
    have E4:∀ x,(aF x).eval (.tmp 4) = .pointer (some ⟨g,0,none⟩):=by intro x; rw [hAF]; kernel_rfl
    have T20:∀ x,(aF x).tmps[20]? = some (.pointer (some ⟨g,0,none⟩)):=by intro x; rw [hAF]; kernel_rfl
    have T21:∀ x,(aF x).tmps[21]? = some (.agg V):=by intro x; rw [hAF]; kernel_rfl
    have T22:∀ x,(aF x).tmps[22]? = some (.pointer (some ⟨g,5,none⟩)):=by intro x; rw [hAF]; kernel_rfl
    have T23:∀ x,(aF x).tmps[23]? = some (.slice qk n dk):=by intro x; rw [hAF]; kernel_rfl
    have T24:∀ x,(aF x).tmps[24]? = some (.pointer (some ⟨b,0,none⟩)):=by intro x; rw [hAF]; kernel_rfl
    have T25:∀ x,(aF x).tmps[25]? = some (.pointer (some ⟨b,0,none⟩)):=by intro x; rw [hAF]; kernel_rfl
    have T26:∀ x,(aF x).tmps[26]? = some (.pointer (some ⟨b,0,none⟩)):=by intro x; rw [hAF]; kernel_rfl
    have T27:∀ x,(aF x).tmps[27]? = some (.slice qT T dT):=by intro x; rw [hAF]; kernel_rfl
    have T30:∀ x,(aF x).tmps[30]? = some (.int .i64 en):=by intro x; rw [hAF]; kernel_rfl
    have T31:∀ x,(aF x).tmps[31]? = some (.int .i64 e0):=by intro x; rw [hAF]; kernel_rfl
    have T6:∀ x,(aF x).tmps[6]? = some (.int .i64 en):=by intro x; rw [hAF]; kernel_rfl
    have T7:∀ x,(aF x).tmps[7]? = some (.int .i64 e0):=by intro x; rw [hAF]; kernel_rfl
    have T28:∀ x,(aF x).tmps[28]? = some (.tuple #[.slice x.1 L.length x.2,.int .i64 en,.int .i64 e0]):=by intro x; rw [hAF]; kernel_rfl
    have T19:∀ x,(aF x).tmps[19]? = some (.tuple #[.slice x.1 L.length x.2,.int .i64 en,.int .i64 e0]):=by intro x; rw [hAF]; kernel_rfl
    have T29:∀ x,(aF x).tmps[29]? = some (.slice x.1 L.length x.2):=by intro x; rw [hAF]; kernel_rfl
    have T5:∀ x,(aF x).tmps[5]? = some (.slice x.1 L.length x.2):=by intro x; rw [hAF]; kernel_rfl
    replace hAF:=Lib.hid hAF
    refine ⟨?_,?_,?_,?_,?_,?_,?_,?_,?_,?_,?_,?_,?_,?_,?_,?_,trivial⟩
    ·exact oq T20 rfl rfl fun x d w' hd hc=>sv (run_fldT rfl (E4 x) (fun _=>by kernel_rfl)) hc
    ·exact oq T21 rfl rfl fun x d w' hd hc=>sv (run_load1 rfl (ev T20 x) (hlv.out _ hc)) hc
    ·exact oq T22 rfl rfl fun x d w' hd hc=>sv (run_fldT rfl (E4 x) (fun _=>by kernel_rfl)) hc
    ·exact oq T23 rfl rfl fun x d w' hd hc=>sv (run_load1 rfl (ev T22 x) (hlq.out _ hc)) hc
    ·exact oq T24 rfl rfl fun x d w' hd hc=>sv (run_mov rfl (E0 x)) hc
    ·exact oq T25 rfl rfl fun x d w' hd hc=>sv (run_nilP rfl (ev T24 x)) hc
    ·exact oq T26 rfl rfl fun x d w' hd hc=>sv (run_fldT rfl (ev T25 x) (fun _=>by kernel_rfl)) hc
    ·exact oq T27 rfl rfl fun x d w' hd hc=>sv (run_load1 rfl (ev T26 x) (hlt.out _ hc)) hc
    ·exact opOk3_loud rfl fun x d w' hd hn hc=>by
       refine sk (run_callTimes rfl (ev T21 x) (ev T23 x) (ev T27 x)) ((hbest.out w' hc).mono ?_)
       rintro e w'' ⟨q,dd,rfl,hb,-⟩
       exact ⟨_,rfl,(q,dd),(by rw [hAF.out]; exact agree_any (by kernel_rfl) (by kernel_rfl)),(by intro t hd _; cases hd; exact T28 _),hc.after hb⟩
    ·exact oq T19 rfl rfl fun x d w' hd hc=>sv (run_mov rfl (ev T28 x)) hc
    ·exact oq T29 rfl rfl fun x d w' hd hc=>sv (run_ext rfl (ev T19 x) rfl) hc
    ·exact oq T30 rfl rfl fun x d w' hd hc=>sv (run_ext rfl (ev T19 x) rfl) hc
    ·exact oq T31 rfl rfl fun x d w' hd hc=>sv (run_ext rfl (ev T19 x) rfl) hc
    ·exact oq T5 rfl rfl fun x d w' hd hc=>sv (run_asg rfl (ev T29 x)) hc
    ·exact oq T6 rfl rfl fun x d w' hd hc=>sv (run_asg rfl (ev T30 x)) hc
    ·exact oq T7 rfl rfl fun x d w' hd hc=>sv (run_asg rfl (ev T31 x)) hc
   ·intro x d w' hd hc
    simp only [putAll,List.foldl_cons,List.foldl_nil,List.cons_append,List.nil_append,Act.put,List.setIfInBounds_toArray,List.set_cons_succ,List.set_cons_zero]
    obtain ⟨q,dq⟩:=x
    have k3:=hk3.out w' hc
    have hbw:=hb.out.trans (hc.below hb.out.size (fun _ h=>h.elim))
    replace hbw:=Lib.hid hbw
    clear hc hd hb hlv hlq hlt hbest hYs hY1 hYv hYq hY3 hk3
    go_wp2_with fail
    go_roundw
    case rel=>exact ⟨k + 1,by omega,by simp,by rw [F1.out],hbw.out⟩
    case measure=>simp [intOf]; omega
  ·obtain rfl:k = fl.length:=by omega
   replace hb:=Lib.hid hb
   go_wp2_with fail
   go_ret
   exact ⟨rfl,hb.out⟩
end
end
section
open Go.RowKit
def rsV (rows:List Rou2) (qs:List (Option Addr × Nat)) (k:Nat):List (List Value):=(List.range k).map fun i=>[.slice (qs.getD i (none,0)).1 (rows.getD i []).length (qs.getD i (none,0)).2]
theorem rsV_len (rows:List Rou2) (qs:List (Option Addr × Nat)) (k:Nat):∀ x ∈ rsV rows qs k,x.length = 1:=by
 intro x hx
 obtain ⟨i,_,rfl⟩:=List.mem_map.1 hx
 rfl
theorem rsV_size (rows:List Rou2) (qs:List (Option Addr × Nat)) (k:Nat):(rsV rows qs k).length = k:=by simp [rsV]
theorem rsV_succ (rows:List Rou2) (qs:List (Option Addr × Nat)) {k:Nat} (hk:qs.length = k) (q:Option Addr) (d:Nat):rsV rows (qs ++ [(q,d)]) (k + 1) = rsV rows qs k ++ [[.slice q (rows.getD k []).length d]]:=by
 unfold rsV
 rw [List.range_succ,List.map_append]
 congr 1
 ·apply List.map_congr_left
  intro i hi
  have hi':=List.mem_range.1 hi
  have e:(qs ++ [(q,d)]).getD i (none,0) = qs.getD i (none,0):=by
   rw [List.getD_eq_getElem?_getD,List.getD_eq_getElem?_getD,List.getElem?_append_left (by omega)]
  rw [e]
 ·have e:(qs ++ [(q,d)]).getD k (none,0) = (q,d):=by
   rw [List.getD_eq_getElem?_getD,List.getElem?_append_right (by omega),hk,Nat.sub_self]
   rfl
  simp only [List.map_cons,List.map_nil,e]
theorem rs_el:ElT Tryz.prog 106 82 1 24:=⟨Tryz.underlying106,by kernel_rfl,by kernel_rfl,by kernel_rfl,by omega,by omega⟩
theorem rsl_rs (q:Option Addr) (n d:Nat) (w:World):(Instr.buildSlice 106 1 #[(0,.slice q n d)]).run Tryz.prog w = .ok (.slice (some ⟨w.heap.size,0,none⟩) 1 1) (w.alloc (.cells #[.slice q n d] 82)):=by kernel_rfl
theorem own_ne {w:World} {base n k:Nat} {E T:TypeId} {v:Value} {xs:List Value} (h:w.ownsRow base E n v k xs) {g g':Nat} {C:Array Value} (hg:v.ownBlock = some g') (hB:Blk w g C T) (hT:T ≠ E):g ≠ g':=by
 intro e
 rw [e] at hB
 rcases h.2 with ⟨hv,_⟩ | ⟨g2,cap',cur,hv,_,hh,_⟩
 ·rw [hv] at hg; cases hg
 ·rw [hv] at hg
  have e2:g2 = g':=Option.some.inj hg
  rw [e2] at hh
  have hB':w.heap[g']? = some (.cells C T (0,0)):=hB
  rw [hh] at hB'
  cases hB'
  exact hT rfl
end
end Go.Proofs.YtkaoflndbcfodaaGreat
