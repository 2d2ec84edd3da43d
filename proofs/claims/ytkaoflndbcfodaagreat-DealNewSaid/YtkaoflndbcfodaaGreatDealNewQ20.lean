/-
  The row 'DealNew': a pack of the texts Pd Pj Sp So Ky, pruned to what the row uses.
-/
import Derived.Test.YtkaoflndbcfodaaGreatDealNewQ19
import Derived.Shelf.SortM.Plain
import Derived.Shelf.SortM.SortNone
import Derived.Sort.OwnSortedInts
import Derived.Shelf.SlIterI.Sorted
import Derived.Shelf.SlIterI.Keys
import Derived.Shelf.SlMaps.Clone
namespace Go.Proofs.YtkaoflndbcfodaaGreat
set_option maxHeartbeats 8000000
set_option maxRecDepth 100000
section
section
open Go.RowKit
theorem ClR.callN {l:Rou2} {p:Addr} {w W W':World} {q:Option Addr} {d:Nat} (hm:Mod (fun _=>False) w W) (hb:Below W.heap.size W W') (hE:Els W' q 2 (l.map stV)) (hc:l.length≤d∧d≤9223372036854775807) (hf:l ≠ []→∀ a,q = some a→W.heap.size≤a.block):ClR l p w (q,d) true false W':=
 ⟨W',hm.after hb,fun _=>⟨hE,hc,fun h0 a ha=>⟨Nat.le_trans hm.size (hf h0 a ha),els_lt hE (fun e=>h0 (List.map_eq_nil_iff.1 e)) ha⟩⟩,rfl⟩
section
variable {ρ:Operand→Value} {o:Oper} {w:World} {x y z u:Operand}
theorem run_callWout {a b:Value} (ho:o.op = .call { callee:=.value (.func 35),args:=#[x,y],argTypes:=#[82,3] }) (hx:ρ x = a) (hy:ρ y = b)
  (hf:ρ (.func 35) = .func (.func 35) #[] #[]:=by rfl):(execOp ρ o).run Tryz.prog w = .ok (.enter 35 #[a,b]) w:=by
 unfold execOp
 simp only [ho]
 go_simp
theorem exec_delP {w':World} {t k:TypeId} {b:Nat} {i:Int} (ho:o.op = .call { callee:=.builtin .delete,args:=#[x,y],argTypes:=#[t,k] }) (hx:ρ x = .map (some b)) (hy:ρ y = .int .i64 i)
  (h:(Builtin.delete_ #[t,k] o.type #[.map (some b),.int .i64 i]).run Tryz.prog w = .ok (.tuple #[]) w'):(execOp ρ o).run Tryz.prog w = .ok (.value (.tuple #[])) w':=by
 unfold execOp
 simp only [ho,resolve,invoke,builtin,Sem.run_bind,Sem.run_pure,Result.andThen_ok,List.map_toArray,List.map_cons,List.map_nil,hx,hy,h]
theorem run_cellTr {p:Addr} {q:Option Addr} {n c:Nat} (h:w.cell? p = some (.slice q n c)):(loadVar 85 p).run Tryz.prog w = .ok (.slice q n c) w:=by go_simp
end
theorem ptake_calls {w:World} {F:Nat→Prop} {b gT gM N:Nat} {fl:List Ve} {rows:List Rou2} {t:List Rq} (hP:PlnOk fl rows t) (h:PlanAt w F b gT gM N fl rows t) (req:Int) (hq:wf64 req):
  Calls Tryz.prog 14 #[.pointer (some ⟨b,0,none⟩),.int .i64 req] w fun e w'=>e = .returned (.int .i64 (ptakP rows req).2)∧
   PlanAt w' (fun k=>F k∨(w.heap.size≤k∧k < w'.heap.size)) b gT gM N fl (ptakP rows req).1 t∧Mod (fun k=>k = gT∨k = gM) w w':=by
 by_cases he:whereP rows req < 0
 ·have e1:ptakP rows req = (rows,12):=if_pos he
  rw [e1]
  have hnone:=whM_none he
  have hh:PlanAt w (fun k=>F k∨(w.heap.size≤k∧k < w.heap.size)) b gT gM N fl rows t:=by
   obtain ⟨qT,dT,cT,qs,h⟩:=h
   exact ⟨qT,dT,cT,qs,h.box,h.req,h.tb,h.tours,h.map,h.row,h.cap,fun i a ha hr=>by have:=h.rowB i a ha hr; exact ⟨.inl this.1,this.2⟩,fun a ha hr=>by have:=h.reqB a ha hr; exact ⟨.inl this.1,this.2⟩,.inl h.fb,.inl h.fT,.inl h.fM,
    h.ne1,h.ne2,h.ne3,fun k hk=>by rcases hk with hk | hk; exact h.lt k hk; exact hk.2,h.len,h.lenq,h.many,h.tcap⟩
  obtain ⟨qT,dT,cT,qs,h⟩:=h
  have k2:=h.box.cell (i:=2) rfl
  have hl:=h.map.getOk Tryz.underlying3 Tryz.underlying3 (t:=86) Tryz.underlying86 (by kernel_rfl) hq
  rw [hnone] at hl
  replace hl:=Lib.hid hl
  replace hh:=Lib.hid hh
  clear h hP hq he e1 hnone
  go_enter Tryz.func14,Tryz.ntmps14
  go_wp2_with (refine wpList_v rfl (.tuple #[.int .i64 0,.bool false]) (exec_lookOk rfl rfl rfl hl.out) ?_)
  go_ret
  exact ⟨rfl,hh.out,Mod.refl _ _⟩
 obtain ⟨i,hi0,hw0,hmem⟩:=where_some (by omega:0≤whereP rows req)
 have hi:i < fl.length:=by rw [← hP.len]; exact hi0
 have e1:ptakP rows req = (rows.set i (woP (rows.getD i []) req),0):=by
  unfold ptakP
  rw [if_neg he,hw0,Int.toNat_natCast]
 have hkeep:=take_keeps hP req
 have hwl:=woP_len (rows.getD i []) req
 rw [e1] at hkeep ⊢
 dsimp only at hkeep ⊢
 have hwm:=whM_take hP hi hw0 hkeep
 have hsome:=whM_some (by omega:0≤whereP rows req)
 rw [hw0] at hsome
 have hr16:=(hP.right i hi).2.2.1
 obtain ⟨qT,dT,cT,qs,h⟩:=h
 have hput:∀ wx,Below w.heap.size w wx→Calls Tryz.prog 35 #[.slice (qs.getD i (none,0)).1 (rows.getD i []).length (qs.getD i (none,0)).2,.int .i64 req] wx (WoPostN wx (rows.getD i []) req):=fun wx hb=>
  pwithoutN_calls (qs.getD i (none,0)).1 (qs.getD i (none,0)).2 (rows.getD i []) req wx ((h.row i).below hb) (by omega)
 unfold WoPostN at hput
 generalize hL:woP (rows.getD i []) req = L at *
 replace hL:=Lib.hid hL
 replace hput:=Lib.hid hput
 have hl:=h.map.getOk Tryz.underlying3 Tryz.underlying3 (t:=86) Tryz.underlying86 (by kernel_rfl) hq
 rw [hsome] at hl
 obtain ⟨w2,hrun,hM2,hm2⟩:=h.map.delete Tryz.underlying3 (t:=86) Tryz.underlying86 hq 0
 rw [← hwm] at hM2
 have k2:=h.box.cell (i:=2) rfl
 have hto:=els_modP h.tours hm2 (fun a ha _ e=>(by cases ha; exact h.ne3 e))
 have hbx:=h.box.mod hm2 (fun e=>h.ne2 e)
 have hfl:=h.many.1
 have hlen:i < (trs fl rows qs).length:=by rw [trs_len]; exact hi
 have hT0:=h.lt gT h.fT
 have hM0:=h.lt gM h.fM
 have hbg:b ≠ gT∧b ≠ gM∧gT ≠ gM:=⟨h.ne1,h.ne2,h.ne3⟩
 have hrow2:=els_modP (h.row i) hm2 (fun a ha hR e=>(h.rowB i a ha (fun e=>hR (by rw [e]; rfl))).2.2 e)
 have hput2:∀ wx,Mod (fun _=>False) w2 wx→Calls Tryz.prog 35 #[.slice (qs.getD i (none,0)).1 (rows.getD i []).length (qs.getD i (none,0)).2,.int .i64 req] wx (fun e w'=>Below wx.heap.size wx w'∧∃ q d,e = .returned (.slice q L.length d)∧(L.length≤d∧d≤9223372036854775807)∧Els w' q 2 (L.map stV)∧(L ≠ []→∀ a,q = some a→wx.heap.size≤a.block)):=fun wx hm=>by
  have:=pwithoutN_calls (qs.getD i (none,0)).1 (qs.getD i (none,0)).2 (rows.getD i []) req wx (els_modP hrow2 hm (fun _ _ _ h=>h)) (by omega)
  unfold WoPostN at this
  rw [hL.out] at this
  exact this
 have hcell:=fun wx (hb:Mod (fun _=>False) w2 wx) (j:Nat) (v:Value) (hj:(trV (fl.getD i ve0) (qs.getD i (none,0)) (rows.getD i []).length)[j]? = some v)=>(by
  have:=(els_modP hto hb (fun _ _ _ h=>h)).cells _ rfl i _ j v (trs_at fl rows qs hi) hj
  rwa [addr0P] at this:wx.cell? ⟨gT,i * 6 + j,none⟩ = some v)
 have htb2:∃ C,Blk w2 gT C 84:=by obtain ⟨C,hC⟩:=h.tb; exact ⟨C,hC.mod hm2 (fun e=>h.ne3 e)⟩
 have hfz:=Lib.hid (fun wx (hb:Mod (fun _=>False) w2 wx)=>(by obtain ⟨C,hC⟩:=htb2; exact (hC.mod hb (fun h=>h)).froz (i * 6 + 5):wx.frozen? ⟨gT,i * 6 + 5,none⟩ = false))
 have hk5:=Lib.hid (fun wx (hb:Mod (fun _=>False) w2 wx)=>hcell wx hb 5 _ rfl)
 have hlq:=Lib.hid (fun wx (hb:Mod (fun _=>False) w2 wx)=>run_cellSt (hk5.out wx hb))
 have hk1:=Lib.hid (fun wx (hb:Mod (fun _=>False) w2 wx)=>run_cellTr ((hbx.mod hb (fun h=>h)).cell (i:=1) rfl))
 have hset:=Lib.hid (fun (C:Array Value) (wx:World) (hb:Mod (fun _=>False) w2 wx) (hB:Blk wx gT C 84) q d=>(by
  have:=els_setP hB (els_modP hto hb (fun _ _ _ h=>h)) hlen (J:=5) (by omega) (.slice q L.length d)
  rwa [trs_set fl rows qs hi h.len h.lenq L q d hlen] at this:Els (wx.setCell ⟨gT,i * 6 + 5,none⟩ (.slice q L.length d)) (some ⟨gT,0,none⟩) 6 (trs fl (rows.set i L) (qs.set i (q,d)))))
 have hH:=Lib.hid h
 generalize (rows.getD i []).length = n at *
 generalize (qs.getD i (none,0)).1 = qi at *
 generalize (qs.getD i (none,0)).2 = di at *
 replace hwm:=Lib.hid hwm
 replace hput2:=Lib.hid hput2
 replace hrun:=Lib.hid hrun
 replace hl:=Lib.hid hl
 replace hM2:=Lib.hid hM2
 replace htb2:=Lib.hid htb2
 replace hm2:=Lib.hid hm2
 clear h hto hlen hkeep hP he hcell hput hsome hw0 e1 hbx hrow2 hr16 hq hmem hi0
 go_enter Tryz.func14,Tryz.ntmps14
 go_upto_region 7 with (first | (refine wpList_v rfl (.tuple #[.int .i64 (i:Int),.bool true]) (exec_lookOk rfl rfl rfl hl.out) ?_) | (refine wpList_vw rfl _ (exec_delP rfl rfl rfl hrun.out) ?_))
 refine wp_region_rove (X:=Option Addr × Nat) (none,0) (fun x=>[(25,.pointer (some ⟨b,0,none⟩)),(26,.pointer (some ⟨b,0,none⟩)),(27,.pointer (some ⟨b,1,none⟩)),(28,.slice (some ⟨gT,0,none⟩) fl.length cT),(29,.int .i64 (i:Int)),(30,.pointer (some ⟨b,0,none⟩)),(31,.pointer (some ⟨b,0,none⟩)),(32,.pointer (some ⟨b,1,none⟩)),(33,.slice (some ⟨gT,0,none⟩) fl.length cT),(34,.int .i64 (i:Int)),(35,.pointer (some ⟨gT,i * 6,none⟩)),(36,.pointer (some ⟨gT,i * 6 + 5,none⟩)),(37,.slice qi n di),(38,.int .i64 req),(40,.pointer (some ⟨gT,i * 6,none⟩)),(41,.pointer (some ⟨gT,i * 6 + 5,none⟩))] ++ [(39,.slice x.1 L.length x.2)])
  (fun x d W'=>ClR L ⟨gT,i * 6 + 5,none⟩ w2 x (d 14) (d 17) W') (by kernel_rfl) (by kernel_rfl) (by kernel_rfl) (by kernel_rfl) (fun x=>by kernel_rfl)
  (ClR.start (Mod.refl _ _).drew) ?_ ?_
 ·intro aF hAF
  have E0:∀ x,(aF x).eval (.tmp 0) = .pointer (some ⟨b,0,none⟩):=by intro x; rw [hAF]; kernel_rfl
  have E1:∀ x,(aF x).eval (.tmp 1) = .int .i64 req:=by intro x; rw [hAF]; kernel_rfl
  have E5:∀ x,(aF x).eval (.tmp 5) = .int .i64 (i:Int):=by intro x; rw [hAF]; kernel_rfl
  have T25:∀ x,(aF x).tmps[25]? = some (.pointer (some ⟨b,0,none⟩)):=by intro x; rw [hAF]; kernel_rfl
  have T26:∀ x,(aF x).tmps[26]? = some (.pointer (some ⟨b,0,none⟩)):=by intro x; rw [hAF]; kernel_rfl
  have T27:∀ x,(aF x).tmps[27]? = some (.pointer (some ⟨b,1,none⟩)):=by intro x; rw [hAF]; kernel_rfl
  have T28:∀ x,(aF x).tmps[28]? = some (.slice (some ⟨gT,0,none⟩) fl.length cT):=by intro x; rw [hAF]; kernel_rfl
  have T29:∀ x,(aF x).tmps[29]? = some (.int .i64 (i:Int)):=by intro x; rw [hAF]; kernel_rfl
  have T30:∀ x,(aF x).tmps[30]? = some (.pointer (some ⟨b,0,none⟩)):=by intro x; rw [hAF]; kernel_rfl
  have T31:∀ x,(aF x).tmps[31]? = some (.pointer (some ⟨b,0,none⟩)):=by intro x; rw [hAF]; kernel_rfl
  have T32:∀ x,(aF x).tmps[32]? = some (.pointer (some ⟨b,1,none⟩)):=by intro x; rw [hAF]; kernel_rfl
  have T33:∀ x,(aF x).tmps[33]? = some (.slice (some ⟨gT,0,none⟩) fl.length cT):=by intro x; rw [hAF]; kernel_rfl
  have T34:∀ x,(aF x).tmps[34]? = some (.int .i64 (i:Int)):=by intro x; rw [hAF]; kernel_rfl
  have T35:∀ x,(aF x).tmps[35]? = some (.pointer (some ⟨gT,i * 6,none⟩)):=by intro x; rw [hAF]; kernel_rfl
  have T36:∀ x,(aF x).tmps[36]? = some (.pointer (some ⟨gT,i * 6 + 5,none⟩)):=by intro x; rw [hAF]; kernel_rfl
  have T37:∀ x,(aF x).tmps[37]? = some (.slice qi n di):=by intro x; rw [hAF]; kernel_rfl
  have T38:∀ x,(aF x).tmps[38]? = some (.int .i64 req):=by intro x; rw [hAF]; kernel_rfl
  have T40:∀ x,(aF x).tmps[40]? = some (.pointer (some ⟨gT,i * 6,none⟩)):=by intro x; rw [hAF]; kernel_rfl
  have T41:∀ x,(aF x).tmps[41]? = some (.pointer (some ⟨gT,i * 6 + 5,none⟩)):=by intro x; rw [hAF]; kernel_rfl
  have T39:∀ x,(aF x).tmps[39]? = some (.slice x.1 L.length x.2):=by intro x; rw [hAF]; kernel_rfl
  replace hAF:=Lib.hid hAF
  refine ⟨?_,?_,?_,?_,?_,?_,?_,?_,?_,?_,?_,?_,?_,?_,?_,?_,?_,?_,trivial⟩
  ·exact oq T25 rfl rfl fun x d w' hd hc=>sv (run_mov rfl (E0 x)) hc
  ·exact oq T26 rfl rfl fun x d w' hd hc=>sv (run_nilP rfl (ev T25 x)) hc
  ·exact oq T27 rfl rfl fun x d w' hd hc=>sv (run_fldT rfl (ev T26 x) (fun _=>by kernel_rfl)) hc
  ·exact opOk3_quietL _ (by intro x t hd _; cases hd; exact T28 x) (fun _=>rfl) fun x d w' hd hn hc=>sv (run_load1 rfl (ev T27 x) (hk1.out _ (ClR.m (by have n:=hn 17 (by kernel_rfl); rw [n] at hc; exact hc)))) hc
  ·exact oq T29 rfl rfl fun x d w' hd hc=>sv (run_mov rfl (E5 x)) hc
  ·exact oq T30 rfl rfl fun x d w' hd hc=>sv (run_mov rfl (E0 x)) hc
  ·exact oq T31 rfl rfl fun x d w' hd hc=>sv (run_nilP rfl (ev T30 x)) hc
  ·exact oq T32 rfl rfl fun x d w' hd hc=>sv (run_fldT rfl (ev T31 x) (fun _=>by kernel_rfl)) hc
  ·exact opOk3_quietL _ (by intro x t hd _; cases hd; exact T33 x) (fun _=>rfl) fun x d w' hd hn hc=>sv (run_load1 rfl (ev T32 x) (hk1.out _ (ClR.m (by have n:=hn 17 (by kernel_rfl); rw [n] at hc; exact hc)))) hc
  ·exact oq T34 rfl rfl fun x d w' hd hc=>sv (run_mov rfl (E5 x)) hc
  ·exact oq T35 rfl rfl fun x d w' hd hc=>sv (run_ixTr0 rfl (ev T33 x) (ev T34 x) hi) hc
  ·exact oq T36 rfl rfl fun x d w' hd hc=>sv (run_fldT rfl (ev T35 x) (fun _=>by kernel_rfl)) hc
  ·exact opOk3_quietL _ (by intro x t hd _; cases hd; exact T37 x) (fun _=>rfl) fun x d w' hd hn hc=>sv (run_load1 rfl (ev T36 x) (hlq.out _ (ClR.m (by have n:=hn 17 (by kernel_rfl); rw [n] at hc; exact hc)))) hc
  ·exact oq T38 rfl rfl fun x d w' hd hc=>sv (run_mov rfl (E1 x)) hc
  ·exact opOk3_loud rfl fun x d w' hd hn hc=>by
     have n2:d 17 = false:=hn 17 (by kernel_rfl)
     rw [n2] at hc
     have hm:=hc.m
     refine sk (run_callWout rfl (ev T37 x) (ev T38 x)) ((hput2.out w' hm).mono ?_)
     rintro e w'' ⟨hb,q,dd,rfl,h2,h3,h4⟩
     refine ⟨_,rfl,(q,dd),(by rw [hAF.out]; exact agree_any (by kernel_rfl) (by kernel_rfl)),(by intro t hd _; cases hd; exact T39 _),?_⟩
     show ClR L _ w2 _ true (d 17) _
     rw [n2]
     exact ClR.callN hm hb h3 h2 h4
  ·exact oq T40 rfl rfl fun x d w' hd hc=>sv (run_ixTr0 rfl (ev T28 x) (ev T29 x) hi) hc
  ·exact oq T41 rfl rfl fun x d w' hd hc=>sv (run_fldT rfl (ev T40 x) (fun _=>by kernel_rfl)) hc
  ·exact opOk3_loud rfl fun x d w' hd hn hc=>by
     have n1:d 14 = true:=hd 14 (by kernel_rfl)
     have n2:d 17 = false:=hn 17 (by kernel_rfl)
     rw [n1,n2] at hc
     have hm:=hc.m
     refine sk_s (run_storeS rfl (ev T41 x) (ev T39 x) (hk5.out w' hm) (hfz.out w' hm)) ⟨x,agree_same _ _,(by intro t hd _; cases hd),?_⟩
     show ClR L _ w2 _ (d 14) true _
     rw [n1]
     exact hc.put
 ·intro x d w' hd hc
  simp only [putAll,List.foldl_cons,List.foldl_nil,List.cons_append,List.nil_append,Act.put,List.setIfInBounds_toArray,List.set_cons_succ,List.set_cons_zero]
  rw [hd 14 (by decide),hd 17 (by decide)] at hc
  obtain ⟨W4,hm4,hx,hW5⟩:=hc
  obtain ⟨q,dq⟩:=x
  obtain ⟨hE,hcap,hf⟩:=hx rfl
  dsimp only at hE hcap hf hW5 ⊢
  replace hW5:w' = W4.setCell ⟨gT,i * 6 + 5,none⟩ (.slice q L.length dq):=hW5
  have hm5:=(Mod.refl (· = gT) W4).setCell (p:=⟨gT,i * 6 + 5,none⟩) (fun _=>rfl) (.slice q L.length dq)
  rw [← hW5] at hm5
  obtain ⟨C,hC⟩:=htb2.out
  have hC4:=hC.mod hm4 (fun h=>h)
  have hT5:=hset.out C W4 hm4 hC4 q dq
  have hC5:=hC4.set (i * 6 + 5) (.slice q L.length dq)
  rw [← hW5] at hT5 hC5
  have hM5:=(hM2.out.mod hm4 (fun h=>h)).mod hm5 (fun e=>hbg.2.2 e.symm)
  have h2s:=hm2.out.size
  have hall:Mod (fun k=>k = gT∨k = gM) w w':=((hm2.out.mono (fun _ _ h=>.inr h)).trans (hm4.mono (fun _ _ h=>h.elim))).trans (hm5.mono (fun _ _ h=>.inl h))
  have hfin:=Lib.hid (hH.out.next (N':=N) (i:=i) (l:=L) (q:=q) (d:=dq) hall hi hT5 ⟨_,hC5⟩ (by rw [hwm.out] at hM5 ⊢; exact hM5)
   (els_modP hE hm5 (fun a ha h0 e=>(by have:=hf (fun h=>h0 (by rw [h]; rfl)) a ha; have:a.block = gT:=e; omega)))
   hcap (fun h0 a ha=>⟨Nat.le_trans h2s (hf h0 a ha).1,Nat.lt_of_lt_of_le (hf h0 a ha).2 hm5.size⟩))
  replace hall:=Lib.hid hall
  clear hE hcap hf hW5 hm5 hC hC4 hT5 hC5 hM5 hm4 hx hd hH hset hlq hk1 hk5 hfz hput2 hwm hM2 hm2 htb2 k2
  go_wp2_with fail
  go_ret
  exact ⟨rfl,⟨qT,dT,cT,_,hfin.out⟩,hall.out⟩
end
end
section
section
open Go.RowKit
theorem rqV_allP (l:List Rq):∀ z ∈ l.map rqV,∀ u ∈ z,u.oneCell' = true:=by
 intro z hz
 obtain ⟨s,_,rfl⟩:=List.mem_map.1 hz
 exact rq_one s
theorem run_nilR {ρ:Operand→Value} {o:Oper} {w:World} {x:Operand} {p:Option Addr} {n c:Nat} (ho:o.op = .binOp .eql 38 x (.const (.slice none 0 0)) 38) (hx:ρ x = .slice p n c) (hc:ρ (.const (.slice none 0 0)) = .slice none 0 0:=by rfl):
  (execOp ρ o).run Tryz.prog w = .ok (.value (.bool p.isNone)) w:=by
 have h:=Lib.run_eql_slice_nil (P:=Tryz.prog) w 38 55 p n c 0 0 Tryz.underlying38
 cases p <;> (unfold execOp; simp only [ho,hx,hc]; go_simp)
theorem rsl_rqZP (w:World):(Instr.buildSlice 38 0 #[]).run Tryz.prog w = .ok (.slice (some ⟨w.heap.size,0,none⟩) 0 0) (w.alloc (.cells #[] 55)):=by kernel_rfl
def RcPost (w:World) (l:List Rq) (e:Ending) (w':World):Prop:=
 Below w.heap.size w w'∧∃ q d,e = .returned (.slice q l.length d)∧(l.length≤d∧d≤9223372036854775807)∧Els w' q 10 (l.map rqV)∧∀ a,q = some a→w.heap.size≤a.block
theorem rclone_calls (p:Option Addr) (c:Nat) (l:List Rq) (w:World) (hE:Els w p 10 (l.map rqV)) (hl:l.length≤1000):
  Calls Tryz.prog 36 #[.slice p l.length c] w (RcPost w l):=by
 cases p with
 | none=>
  have h0:l = []:=by have:=hE.nil rfl; simpa using this
  subst h0
  clear hE
  show Calls Tryz.prog 36 #[.slice none 0 c] w _
  go_enter Tryz.func36,Tryz.ntmps36
  go_wp2_with (refine wpList_v rfl (.bool true) (run_nilR (p:=none) rfl rfl) ?_)
  go_ret
  exact ⟨Below.refl _ _,none,0,rfl,⟨Nat.le_refl _,by omega⟩,els_nilP _ _ _,fun a h=>by cases h⟩
 | some a=>
  have ho1:=Lib.hid (World.ownsRow_made (base:=w.heap.size) (e:=55) (size:=10) w #[] 0 (Nat.le_refl _) (by unfold maxLen; omega) rfl)
  have hlow1:=Lib.hid (new_below w (.cells #[] 55))
  have hEA:=Lib.hid (hE.below hlow1.out)
  have hz1:=Lib.hid hlow1.out.size
  have hTl:=Lib.hid (show l.length = (l.map rqV).length by rw [List.length_map])
  have hall:=Lib.hid (rqV_allP l)
  replace hE:=Lib.hid hE
  go_enter Tryz.func36,Tryz.ntmps36
  go_wp2_with (first | (refine wpList_v rfl (.bool false) (run_nilR (p:=some a) rfl rfl) ?_) | (refine wpList_bs0 rfl 38 0 rfl _ _ (rsl_rqZP _) ?_) |
   (refine wpList_appE rq_el rfl _ _ rfl w.heap.size hz1.out _ 0 [] rfl ho1.out (by omega) (some a) l.length c _ rfl hEA.out hTl.out (by omega) hall.out ?_; intro v6 w6 hO6 hg6))
  have hlow6:=grown_low hlow1.out (Nat.le_refl _) (Nat.le_refl _) ho1.out hg6
  rw [Nat.zero_add,List.nil_append] at hO6
  obtain ⟨qO,nO,dO,rfl⟩:=own_isS hO6
  obtain ⟨hEO,hnO,hdO,hfO⟩:=own_els (R:=l.map rqV) (rqV_len _) (by rw [List.length_map]; exact hO6) (by rw [List.length_map]; omega)
  rw [List.length_map] at hnO
  subst hnO
  have hcap:=own_cap hO6
  clear ho1 hlow1 hEA hz1 hg6 hO6 hall hTl
  go_wp2_with fail
  go_ret
  exact ⟨hlow6,qO,dO,rfl,⟨hdO,hcap⟩,hEO,fun a ha=>(hfO a ha).1⟩
theorem index_rq (p:Option Addr) (c:Nat) (R:List (Rq)) (f:FuncId) (caps:Array Value) (Pd:Rq→Bool) (w:World) (hE:Els w p 10 (R.map rqV)) (eg:∀ args w,(callFunc f args).run Tryz.prog w = .ok (.enter f args) w)
  (hf:∀ r ∈ R,∀ wx,Below w.heap.size w wx→Calls Tryz.prog f (#[.agg (rqV r).toArray] ++ caps) wx fun e w'=>e = .returned (.bool (Pd r))∧Below wx.heap.size wx w'):
  Calls Tryz.prog 62 #[.slice p R.length c,.func (.func f) #[] caps] w fun e w'=>(∃ i:Int,e = .returned (.int .i64 i)∧(0≤i↔R.any Pd = true))∧Below w.heap.size w w':=by
 have hb:R.length≤140737488351232:=by simpa using hE.big
 replace hE:=Lib.hid hE
 replace hf:=Lib.hid hf
 go_enter Tryz.func62,Tryz.ntmps62
 go_wp2_with fail
 go_loopw [8] (fun i wr=>∃ k:Nat,k≤R.length∧i = .int .i64 k∧Hid (∀ j r,j < k→R[j]? = some r→Pd r = false)∧Below w.heap.size w wr) (fun i _=>R.length - (intOf i).toNat)
 case atStart=>exact ⟨0,Nat.zero_le _,rfl,Lib.hid (fun j r h=>by omega),Below.refl _ _⟩
 case round=>
  obtain ⟨k,hk,rfl,hR,hbr⟩:=hrel
  by_cases hlt:k < R.length
  ·have hltI:(k:Int) < (R.length:Int):=by omega
   have s1:IntKind.i64.wrap ((k:Int) + 1) = (k:Int) + 1:=IntWalk.i64_in _ (by omega)
   obtain ⟨a,rfl⟩:=(hE.out.below hbr).some_of (k:=k) (by simpa using hlt)
   have hc:Hid ((loadVar 55 (a.add (k * 10))).run Tryz.prog wr = .ok (.agg (rqV R[k]).toArray) wr):=Lib.hid (by
    have:=(hE.out.below hbr).load (P:=Tryz.prog) (a:=a) rfl (k:=k) (by simpa using hlt) (ty:=55) Tryz.underlying55 rfl (by kernel_rfl)
    rw [List.getElem_map] at this
    exact this)
   have hfk:=Lib.hid (hf.out _ (List.getElem_mem hlt) wr hbr)
   have hok:Hid (Pd R[k] = false→∀ j r,j < k + 1→R[j]? = some r→Pd r = false):=Lib.hid (fun h j u hj hju=>by
    by_cases e:j = k
    ·subst e; rw [List.getElem?_eq_getElem hlt] at hju; cases hju; exact h
    ·exact hR.out j u (by omega) hju)
   have hbad:Hid (Pd R[k] = true→R.any Pd = true):=Lib.hid (fun h=>List.any_eq_true.2 ⟨_,List.getElem_mem hlt,h⟩)
   generalize R[k] = r at hc hfk hok hbad
   generalize (rqV r).toArray = rv at hc hfk
   generalize Pd r = b at hfk hok hbad
   clear hR
   go_wp2_with (first | (refine wpList_load_v rfl 55 _ rfl (a.add (k * 10)) rfl _ hc.out ?_))
   refine hfk.out.mono ?_
   rintro e w2 ⟨rfl,hb2⟩
   replace hb2:=hbr.trans (hb2.mono hbr.size)
   clear hfk hbr hc
   cases b with
   | true=>
    have hy:=hbad.out rfl
    clear hbad hok
    go_wp2
    go_ret
    exact ⟨⟨k,rfl,by simp [hy]⟩,hb2⟩
   | false=>
    have hok':=Lib.hid (hok.out rfl)
    clear hbad hok
    go_wp2_with fail
    go_roundw
    case rel=>exact ⟨k + 1,by omega,by simp,hok',hb2⟩
    case measure=>simp [intOf]; omega
  ·obtain rfl:k = R.length:=by omega
   have hn:R.any Pd = false:=by
    rw [List.any_eq_false]
    intro x hx
    obtain ⟨j,hj,rfl⟩:=List.getElem_of_mem hx
    rw [hR.out j _ hj (List.getElem?_eq_getElem hj)]
    decide
   clear hR
   go_wp2
   go_ret
   exact ⟨⟨-1,rfl,by simp [hn]⟩,hbr⟩
theorem contains_rq (p:Option Addr) (c:Nat) (R:List (Rq)) (f:FuncId) (caps:Array Value) (Pd:Rq→Bool) (w:World) (hE:Els w p 10 (R.map rqV)) (eg:∀ args w,(callFunc f args).run Tryz.prog w = .ok (.enter f args) w)
  (hf:∀ r ∈ R,∀ wx,Below w.heap.size w wx→Calls Tryz.prog f (#[.agg (rqV r).toArray] ++ caps) wx fun e w'=>e = .returned (.bool (Pd r))∧Below wx.heap.size wx w'):
  Calls Tryz.prog 38 #[.slice p R.length c,.func (.func f) #[] caps] w fun e w'=>e = .returned (.bool (R.any Pd))∧Below w.heap.size w w':=by
 have hi:=Lib.hid (index_rq p c R f caps Pd w hE eg hf)
 clear hf eg
 generalize R.any Pd = b at hi ⊢
 go_enter Tryz.func38,Tryz.ntmps38
 go_wp2_with fail
 refine hi.out.mono ?_
 rintro e w2 ⟨⟨i,rfl,h⟩,hb2⟩
 replace h:=Lib.hid h
 clear hi
 by_cases h0:0≤i
 ·obtain rfl:b = true:=h.out.1 h0
  clear h
  go_wp2
  go_ret
  exact ⟨by simp,hb2⟩
 ·obtain rfl:b = false:=by
   cases b with
   | false=>rfl
   | true=>exact absurd (h.out.2 rfl) h0
  clear h
  go_wp2
  go_ret
  exact ⟨by simp [h0],hb2⟩
theorem new1_calls (r:Rq) (w:World):Calls Tryz.prog 39 #[.agg (rqV r).toArray] w fun e w'=>e = .returned (.bool (rqE r != 0))∧Below w.heap.size w w':=by
 have hc:=Lib.hid (fun wx=>check_calls (r 0) (r 1) (r 2) (r 3) (r 4) (r 5) (r 6) (r 7) (r 8) (r 9) wx)
 change Hid (∀ wx,Calls Tryz.prog 40 #[.agg (rqV r).toArray] wx fun e w'=>e = .returned (.int .i64 (rqE r))∧Below wx.heap.size wx w') at hc
 obtain ⟨Y,hY⟩:∃ Y,(rqV r).toArray = Y:=⟨_,rfl⟩
 have hYs:Y.size = 10:=by rw [← hY]; rfl
 rw [hY] at hc ⊢
 generalize rqE r = c at *
 have hB:=Lib.hid (Blk.new w Y 55)
 have hl:=Lib.hid (run_load_row (P:=Tryz.prog) _ w.heap.size 55 Y _ _ hB.out Tryz.underlying55 rfl (by rw [hYs]; kernel_rfl))
 have hb0:=Lib.hid (new_below w (.cells Y 55))
 have hz:(w.alloc (.cells Y 55)).heap.size = w.heap.size + 1:=by simp
 replace hz:=Lib.hid hz
 replace hYs:=Lib.hid hYs
 clear hY hB
 go_enter Tryz.func39,Tryz.ntmps39
 go_wp2_with (refine wpList_load_v rfl 55 _ rfl ⟨w.heap.size,0,none⟩ rfl _ hl.out ?_)
 refine (hc.out _).mono ?_
 rintro e w2 ⟨rfl,hb⟩
 have hb2:=Lib.hid (hb0.out.trans (hb.mono (by rw [hz.out]; omega)))
 clear hb
 go_wp2
 go_ret
 exact ⟨by simp [bne,BEq.beq],hb2.out⟩
end
section
open Go.RowKit
def newC (fl:List Ve) (t:List Rq):Int:=if fl.length = 0∨4 < fl.length then 11 else if fl.any (fun v=>vehV v != 0) then 2 else if t.any (fun r=>rqE r != 0) then 2 else 0
def rows0 (fl:List Ve):List Rou2:=fl.map fun _=>[]
def qs0 (fl:List Ve):List (Option Addr × Nat):=fl.map fun _=>(none,0)
def NwPost (w:World) (fl:List Ve) (t:List Rq) (e:Ending) (w':World):Prop:=
 Below w.heap.size w w'∧((newC fl t ≠ 0∧e = .returned (.tuple #[.pointer none,.int .i64 (newC fl t)]))∨(newC fl t = 0∧∃ b gT gM F,e = .returned (.tuple #[.pointer (some ⟨b,0,none⟩),.int .i64 0])∧(∀ k,F k→w.heap.size≤k)∧PlanAt w' F b gT gM 0 fl (rows0 fl) t))
theorem rows0_at (fl:List Ve) (i:Nat):(rows0 fl).getD i [] = []:=by
 unfold rows0
 rw [List.getD_eq_getElem?_getD,List.getElem?_map]
 cases fl[i]? <;> rfl
theorem qs0_at (fl:List Ve) (i:Nat):(qs0 fl).getD i (none,0) = (none,0):=by
 unfold qs0
 rw [List.getD_eq_getElem?_getD,List.getElem?_map]
 cases fl[i]? <;> rfl
theorem where0 (fl:List Ve) (req:Int):whereP (rows0 fl) req = -1:=by
 rcases fstI_cases (fun l:Rou2=>l.any (fun s=>s.1 == req)) (rows0 fl) with ⟨h,_⟩ | ⟨k,hk,h,h1,_⟩
 ·exact h
 ·have:(rows0 fl)[k] = []:=by simp [rows0]
  rw [this] at h1
  cases h1
theorem whM0 (fl:List Ve):whM (rows0 fl) = fun _=>none:=by
 funext r
 exact whM_none (by rw [where0]; omega)
def trs0 (fl:List Ve) (k:Nat):List (List Value):=(fl.take k).map fun v=>trV v (none,0) 0
theorem trs0_succ (fl:List Ve) {k:Nat} (hk:k < fl.length):(trs0 fl (k + 1)).flatten = (trs0 fl k).flatten ++ trV fl[k] (none,0) 0:=by
 unfold trs0
 rw [List.take_succ_eq_append_getElem hk,List.map_append,List.flatten_append]
 simp
theorem trs0_all (fl:List Ve):trs0 fl fl.length = trs fl (rows0 fl) (qs0 fl):=by
 unfold trs0 trs
 rw [List.take_length]
 refine List.ext_getElem (by simp) fun i h1 h2=>?_
 simp only [List.getElem_map,List.getElem_range,rows0_at,qs0_at]
 rw [List.getD_eq_getElem?_getD,List.getElem?_eq_getElem (by simpa using h1)]
 rfl
theorem trs0_len (fl:List Ve) (k:Nat):∀ x ∈ trs0 fl k,x.length = 6:=by
 intro x hx
 obtain ⟨s,_,rfl⟩:=List.mem_map.1 hx
 rfl
theorem trs0_size (fl:List Ve) {k:Nat} (hk:k≤fl.length):(trs0 fl k).length = k:=by
 unfold trs0
 simp
 omega
theorem tr_el:ElT Tryz.prog 85 84 6 64:=⟨Tryz.underlying85,by kernel_rfl,by kernel_rfl,by kernel_rfl,by omega,by omega⟩
theorem rsl_tr (v:Ve) (w:World):(Instr.buildSlice 85 1 #[(0,.agg (trV v (none,0) 0).toArray)]).run Tryz.prog w = .ok (.slice (some ⟨w.heap.size,0,none⟩) 1 1) (w.alloc (.cells (trV v (none,0) 0).toArray 84)):=by kernel_rfl
theorem run_trB (v:Ve) (w:World):(Instr.build 84 #[(0,.agg (veR v).toArray)]).run Tryz.prog w = .ok (.agg (trV v (none,0) 0).toArray) w:=by kernel_rfl
theorem sk_app {P:Program} {T E:TypeId} {n b:Nat} {R:Value→World→Prop} (hT:ElT P T E n b) {ρ:Operand→Value} {o:Oper} {w:World} {x y:Operand} (base:Nat) (hbase:base≤w.heap.size) (v:Value) (m:Nat) (xs:List Value) (ho:o.op = .call { callee:=.builtin .append,args:=#[x,y],argTypes:=#[T,T] })
  (hx:ρ x = v) (hown:w.ownsRow base E n v m xs) (hm:m≤100000) (a:Addr) (k c:Nat) (news:List Value) (hy:ρ y = .slice (some a) k c) (hl:news.length = k * n) (hk:k≤1000) (hc:∀ j u,news[j]? = some u→w.cell? (a.add j) = some u) (h1:∀ u ∈ news,u.oneCell' = true)
  (h:∀ v' w',w'.ownsRow base E n v' (m + k) (xs ++ news)→w.grownBy w' v.ownBlock→R v' w'):upon2 P R ((execOp ρ o).run P w):=by
 obtain ⟨v',w',h2,h3,h4⟩:=run_appG hT base hbase v m xs ho hx hown hm a k c news hy hl hk hc h1
 rw [h2]
 exact h v' w' h3 h4
def ClN (J O:World→Prop) (R:Nat→World→Prop) (O':Value→World→Prop) (a:Addr) (x:Nat × Value) (b7 b8 b11:Bool) (W:World):Prop:=
 ∃ W0,(W = bif b11 then W0.setCell a x.2 else W0)∧J W0∧(b8 = true→O' x.2 W0)∧(b8 = false→O W0∧(b7 = true→R x.1 W0))
theorem ClN.j {J O:World→Prop} {R:Nat→World→Prop} {O':Value→World→Prop} {a:Addr} {x:Nat × Value} {b7 b8:Bool} {W:World} (h:ClN J O R O' a x b7 b8 false W):J W:=by
 obtain ⟨W0,rfl,hj,_⟩:=h
 exact hj
section
variable {ρ:Operand→Value} {o:Oper} {w:World} {x y:Operand}
theorem run_bldTr {v:Ve} (ho:o.op = .build 84 #[(0,x)]) (hx:ρ x = .agg (veR v).toArray):(execOp ρ o).run Tryz.prog w = .ok (.value (.agg (trV v (none,0) 0).toArray)) w:=by
 unfold execOp
 simp only [ho,List.map_toArray,List.map_cons,List.map_nil,hx,Sem.run_bind,run_trB,Result.andThen_ok,Sem.run_pure]
theorem run_bslTr {v:Ve} (ho:o.op = .buildSlice 85 1 #[(0,x)]) (hx:ρ x = .agg (trV v (none,0) 0).toArray):(execOp ρ o).run Tryz.prog w = .ok (.value (.slice (some ⟨w.heap.size,0,none⟩) 1 1)) (w.alloc (.cells (trV v (none,0) 0).toArray 84)):=by
 unfold execOp
 simp only [ho,List.map_toArray,List.map_cons,List.map_nil,hx,Sem.run_bind,rsl_tr,Result.andThen_ok,Sem.run_pure]
theorem run_storeTS {p:Addr} {q:Option Addr} {m c:Nat} {v:Value} (ho:o.op = .store 85 x y) (hx:ρ x = .pointer (some p)) (hy:ρ y = .slice q m c) (hc:w.cell? p = some v) (hf:w.frozen? p = false):
  (execOp ρ o).run Tryz.prog w = .ok .skip (w.setCell p (.slice q m c)):=by
 unfold execOp
 simp only [ho,hx,hy]
 go_simp
end
structure NwI (w wx:World) (M:Nat) (q:Option Addr) (d:Nat) (fl:List Ve) (t:List Rq) (k:Nat) (sT:Value):Prop where
 box:Blk wx (M + 1) #[.slice q t.length d,sT,.map (some M)] 88
 map:MapV Tryz.prog 3 3 wx M 0 (fun _=>none)
 req:Els wx q 10 (t.map rqV)
 low:Below w.heap.size w wx
 own:wx.ownsRow (M + 2) 84 6 sT k (trs0 fl k).flatten
 qlt:∀ a,q = some a→t ≠ []→w.heap.size≤a.block∧a.block < M
 ge:w.heap.size≤M
 sz:M + 2≤wx.heap.size
theorem NwI.mod {w wx wy:World} {M:Nat} {q:Option Addr} {d:Nat} {fl:List Ve} {t:List Rq} {k:Nat} {sT:Value} (h:NwI w wx M q d fl t k sT) (hm:Mod (fun _=>False) wx wy):NwI w wy M q d fl t k sT:=
 ⟨h.box.mod hm (fun h=>h),h.map.mod hm (fun h=>h),els_modP h.req hm (fun _ _ _ h=>h),h.low.trans (hm.below h.low.size (fun _ h=>h.elim)),own_mod h.own hm (fun _ _ h=>h),h.qlt,h.ge,Nat.le_trans h.sz hm.size⟩
theorem NwI.start {w w1:World} {q:Option Addr} {d:Nat} {fl:List Ve} {t:List Rq} (hb1:Below w.heap.size w w1) (hE:Els w1 q 10 (t.map rqV)) (hf:∀ a,q = some a→w.heap.size≤a.block):
  NwI w ((w1.alloc (.map #[] 0)).alloc (.cells #[.slice q t.length d,.slice none 0 0,.map (some w1.heap.size)] 88)) w1.heap.size q d fl t 0 (.slice none 0 0):=by
 have hmap:=MapV.new Tryz.prog 3 3 w1
 have hm2:Mod (fun _=>False) w1 ((w1.alloc (.map #[] 0)).alloc (.cells #[.slice q t.length d,.slice none 0 0,.map (some w1.heap.size)] 88)):=((Mod.refl _ _).alloc _).alloc _
 have hbx:=Blk.new (w1.alloc (.map #[] 0)) #[.slice q t.length d,.slice none 0 0,.map (some w1.heap.size)] 88
 have hsz1:(w1.alloc (.map #[] 0)).heap.size = w1.heap.size + 1:=by simp
 rw [hsz1] at hbx
 refine ⟨hbx,hmap.mod ((Mod.refl (fun _=>False) _).alloc _) (fun h=>h),els_modP hE hm2 (fun _ _ _ h=>h),hb1.trans (hm2.below hb1.size (fun _ h=>h.elim)),World.ownsRow_nil _ _ _ _,fun a ha h0=>⟨hf a ha,els_lt hE (fun e=>h0 (List.map_eq_nil_iff.1 e)) ha⟩,hb1.size,by simp⟩
theorem NwI.next {w wx W:World} {M:Nat} {q p:Option Addr} {d m c:Nat} {fl:List Ve} {t:List Rq} {k:Nat} {sT:Value} (h:NwI w wx M q d fl t k sT) (hm:Mod (fun k=>M + 2≤k) wx W) (ho:W.ownsRow (M + 2) 84 6 (.slice p m c) (k + 1) (trs0 fl (k + 1)).flatten):
  NwI w (W.setCell ⟨M + 1,1,none⟩ (.slice p m c)) M q d fl t (k + 1) (.slice p m c):=by
 have hs:Mod (· = M + 1) W (W.setCell ⟨M + 1,1,none⟩ (.slice p m c)):=(Mod.refl (· = M + 1) _).setCell (p:=⟨M + 1,1,none⟩) (fun _=>rfl) _
 have hq:∀ a,q = some a→(t.map rqV) ≠ []→a.block < M:=fun a ha h0=>(h.qlt a ha (fun e=>h0 (by rw [e]; rfl))).2
 have hge:=h.ge
 refine ⟨?_,(h.map.mod hm (by omega)).mod hs (by omega),els_modP (els_modP h.req hm (fun a ha h0=>by have:=hq a ha h0; omega)) hs (fun a ha h0=>by have:=hq a ha h0; omega),
  (h.low.trans (hm.below h.low.size (fun k hk=>by omega))).trans (hs.below (Nat.le_trans h.low.size hm.size) (fun k hk=>by omega)),own_mod ho hs (fun g hg=>by have:=own_blk_lt ho hg; omega),h.qlt,hge,Nat.le_trans (Nat.le_trans h.sz hm.size) hs.size⟩
 have:=(h.box.mod hm (by omega)).set 1 (.slice p m c)
 simpa using this
theorem NwI.plan {w wx:World} {M:Nat} {q:Option Addr} {d:Nat} {fl:List Ve} {t:List Rq} {sT:Value} (h:NwI w wx M q d fl t fl.length sT) (hn:0 < fl.length∧fl.length≤4) (hd:t.length≤d∧d≤9223372036854775807):
  ∃ (gT:Nat) (F:Nat→Prop),(∀ k,F k→w.heap.size≤k)∧PlanAt wx F (M + 1) gT M 0 fl (rows0 fl) t:=by
 have ho:=h.own
 obtain ⟨p,m,c,rfl⟩:=own_isS ho
 obtain rfl:=own_lenC ho
 obtain ⟨gT,C,rfl,hC,hg,_⟩:=ownS_blk ho hn.1
 have hlt:=(own_blk_lt ho (g:=gT) rfl).2
 obtain ⟨h1,h2,h3,h4⟩:=own_els (trs0_len fl fl.length) (by rw [trs0_size fl (Nat.le_refl _)]; exact ho) (by rw [trs0_size fl (Nat.le_refl _)]; omega)
 have hge:=h.ge
 have hsz:=h.sz
 refine ⟨gT,fun k=>k = M + 1∨k = gT∨k = M∨∃ a,q = some a∧t ≠ []∧k = a.block,?_,q,d,c,qs0 fl,h.box,h.req,⟨C,hC⟩,by rw [← trs0_all]; exact h1,by rw [whM0]; exact h.map,?_,?_,?_,?_,.inl rfl,.inr (.inl rfl),.inr (.inr (.inl rfl)),by omega,by omega,by omega,?_,by simp [rows0],by simp [qs0],⟨hn.2,h3,own_cap ho⟩,hd⟩
 ·rintro k (rfl | rfl | rfl | ⟨a,ha,h0,rfl⟩)
  ·omega
  ·omega
  ·omega
  ·exact (h.qlt a ha h0).1
 ·intro i
  rw [rows0_at,qs0_at]
  exact els_nilP _ _ _
 ·intro i
  rw [rows0_at,qs0_at]
  exact ⟨Nat.le_refl _,by omega⟩
 ·intro i a ha h0
  rw [rows0_at] at h0
  exact absurd rfl h0
 ·intro a ha h0
  have:=(h.qlt a ha h0).2
  exact ⟨.inr (.inr (.inr ⟨a,ha,h0,rfl⟩)),by omega,by omega⟩
 ·rintro k (rfl | rfl | rfl | ⟨a,ha,h0,rfl⟩)
  ·omega
  ·exact hlt
  ·omega
  ·have:=(h.qlt a ha h0).2; omega
theorem newC_bad {fl:List Ve} {t:List Rq} {tb:Bool} (hN:newC fl t = if fl.any (fun v=>vehV v != 0) then 2 else if tb then 2 else 0) {k:Nat} {v:Ve} (hk:fl[k]? = some v) (hv:vehV v ≠ 0):newC fl t = 2:=by
 rw [hN,if_pos]
 exact List.any_eq_true.2 ⟨v,List.mem_of_getElem? hk,by simpa using hv⟩
theorem newC_ok {fl:List Ve} {t:List Rq} {tb:Bool} (hN:newC fl t = if fl.any (fun v=>vehV v != 0) then 2 else if tb then 2 else 0) (h:∀ (j:Nat) (v:Ve),j < fl.length→fl[j]? = some v→vehV v = 0):newC fl t = if tb then 2 else 0:=by
 rw [hN,if_neg]
 intro hh
 obtain ⟨v,hv,h2⟩:=List.any_eq_true.1 hh
 obtain ⟨j,hj,rfl⟩:=List.getElem_of_mem hv
 have:=h j _ hj (List.getElem?_eq_getElem hj)
 rw [this] at h2
 cases h2
theorem pnew_calls (pF pT:Option Addr) (cF cT:Nat) (fl:List Ve) (t:List Rq) (w:World) (hF:Els w pF 5 (fl.map veR)) (hfl:fl.length≤1000) (hT:Els w pT 10 (t.map rqV)) (ht:t.length≤1000):
  Calls Tryz.prog 15 #[.slice pF fl.length cF,.slice pT t.length cT] w (NwPost w fl t):=by
 by_cases hbad:fl.length = 0∨4 < fl.length
 ·have hc:newC fl t = 11:=by unfold newC; rw [if_pos hbad]
  unfold NwPost
  rw [hc]
  clear hc hF hT
  by_cases h0:fl.length = 0
  ·rw [h0]
   clear h0 hbad
   go_enter Tryz.func15,Tryz.ntmps15
   go_wp2_with fail
   go_ret2
   exact ⟨Below.refl _ _,.inl ⟨by decide,rfl⟩⟩
  ·have h4:(4:Int) < (fl.length:Int):=by omega
   have h0I:¬ (fl.length:Int) = 0:=by omega
   generalize fl.length = n at *
   clear hbad
   go_enter Tryz.func15,Tryz.ntmps15
   go_wp2_with fail
   go_ret2
   exact ⟨Below.refl _ _,.inl ⟨by decide,rfl⟩⟩
 have hcl:=Lib.hid (rclone_calls pT cT t w hT ht)
 unfold RcPost at hcl
 have h4:¬ (4:Int) < (fl.length:Int):=by omega
 have h0I:¬ (fl.length:Int) = 0:=by omega
 have hbig:0 < fl.length∧fl.length≤4:=by omega
 have hcnt:=Lib.hid (fun wx (hb:Below w.heap.size w wx)=>contains_rq pT cT t 39 #[] (fun r=>rqE r != 0) wx (hT.below hb) (enters_of Tryz.func39 (by kernel_rfl) rfl) (fun r _ wy _=>new1_calls r wy))
 have hN:newC fl t = if fl.any (fun v=>vehV v != 0) then 2 else if t.any (fun r=>rqE r != 0) then 2 else 0:=by unfold newC; rw [if_neg hbad]
 clear hT hbad
 replace hF:=Lib.hid hF
 replace hN:=Lib.hid hN
 have hte:=Lib.hid ht
 clear ht
 generalize (t.any fun r=>rqE r != 0) = tb at *
 have hmm:=@run_makeMap Tryz.prog
 obtain ⟨n,hn⟩:∃ n,fl.length = n:=⟨_,rfl⟩
 rw [hn] at h4 h0I hbig hfl ⊢
 have hn0:¬ n = 0:=by omega
 replace hn:=Lib.hid hn
 go_enter Tryz.func15,Tryz.ntmps15
 go_upto_region 3 with fail
 go_wp2_with fail
 refine hcl.out.mono ?_
 rintro e w1 ⟨hb1,q,dq,rfl,hdq,hE,hf⟩
 have hpre:=Lib.hid (NwI.start (d:=dq) (fl:=fl) hb1 hE hf)
 clear hb1 hE hf
 go_upto_region 4 with fail
 generalize w1.heap.size = M at *
 refine wp_world' (fun wx=>NwI w wx M q dq fl t 0 (.slice none 0 0)) hpre.out ?_
 clear hpre
 intro w2 hI
 replace hI:=Lib.hid hI
 go_wp2_with fail
 go_loopw [24] (fun i wx=>∃ (k:Nat) (sT:Value),k≤n∧i = .int .i64 k∧Hid (∀ (j:Nat) (v:Ve),j < k→fl[j]? = some v→vehV v = 0)∧NwI w wx M q dq fl t k sT) (fun i _=>n - (intOf i).toNat)
 case atStart=>exact ⟨0,_,Nat.zero_le _,rfl,Lib.hid (fun j v h=>by omega),hI.out⟩
 case round=>
  obtain ⟨k,sT,hk,rfl,hR,hI2⟩:=hrel
  clear hI
  by_cases hlt:k < n
  ·have hltI:(k:Int) < (n:Int):=by omega
   have hk0:(0:Int)≤(k:Int):=by omega
   have s1:IntKind.i64.wrap ((k:Int) + 1) = (k:Int) + 1:=IntWalk.i64_in _ (by omega)
   have hkl:k < fl.length:=by rw [hn.out]; exact hlt
   obtain ⟨a,rfl⟩:=(hF.out.below hI2.low).some_of (k:=k) (by simpa using hkl)
   have hl:=Lib.hid (show (loadVar 59 (a.add (k * 5))).run Tryz.prog wr = .ok (.agg (veR fl[k]).toArray) wr from by
    have:=(hF.out.below hI2.low).load (P:=Tryz.prog) (a:=a) rfl (k:=k) (by simpa using hkl) (ty:=59) Tryz.underlying59 rfl (by kernel_rfl)
    rw [List.getElem_map] at this
    exact this)
   have hsuc:=Lib.hid (trs0_succ fl hkl)
   have hvk:=Lib.hid (List.getElem?_eq_getElem hkl)
   have hve:=Lib.hid (fun wx=>vehicle_calls (fl[k] 0) (fl[k] 1) (fl[k] 2) (fl[k] 3) (fl[k] 4) wx)
   change Hid (∀ wx,Calls Tryz.prog 37 #[.agg (veR fl[k]).toArray] wx fun e w'=>e = .returned (.int .i64 (vehV fl[k]))∧Below wx.heap.size wx w') at hve
   generalize fl[k] = v at *
   obtain ⟨Y,hY⟩:∃ Y,(veR v).toArray = Y:=⟨_,rfl⟩
   have hYs:Y.size = 5:=by rw [← hY]; rfl
   have hY1:∀ u ∈ Y.toList,u.oneCell' = true:=by rw [← hY]; simp [veR,Value.oneCell']
   rw [hY] at hl hve
   replace hY:=Lib.hid hY
   obtain ⟨c,hc⟩:∃ c,vehV v = c:=⟨_,rfl⟩
   rw [hc] at hve
   replace hc:=Lib.hid hc
   have hpre:=Lib.hid (show Blk (wr.alloc (.cells Y 59)) wr.heap.size Y 59∧NwI w (wr.alloc (.cells Y 59)) M q dq fl t k sT∧M + 2≤wr.heap.size from ⟨Blk.new _ _ _,hI2.mod ((Mod.refl _ _).alloc _),hI2.sz⟩)
   clear hI2
   replace hYs:=Lib.hid hYs
   replace hY1:=Lib.hid hY1
   go_upto_region 7 with (first | (refine wpList_load_v rfl 59 _ rfl (a.add (k * 5)) rfl _ hl.out ?_) |
    (refine wpList_store_new rfl 59 _ _ rfl rfl rfl _ Y _ rfl hYs.out.symm hY1.out (by rw [hYs.out]; kernel_rfl) ?_))
   generalize wr.heap.size = g at *
   refine wp_world' (fun wx=>Blk wx g Y 59∧NwI w wx M q dq fl t k sT∧M + 2≤g) hpre.out ?_
   clear hpre hl
   rintro w3 ⟨hG,hI,hg⟩
   have hlv:=Lib.hid (fun wx (h:Blk wx g Y 59)=>run_load_row (P:=Tryz.prog) wx g 59 Y _ _ h Tryz.underlying59 rfl (by rw [hYs.out]; kernel_rfl))
   have hlw:=Lib.hid (hlv.out _ hG)
   replace hG:=Lib.hid hG
   replace hI:=Lib.hid hI
   go_wp2_with (refine wpList_load_v rfl 59 _ rfl ⟨g,0,none⟩ rfl _ hlw.out ?_)
   refine (hve.out _).mono ?_
   rintro e w4 ⟨rfl,hb4⟩
   replace hG:=Lib.hid (hG.out.mod ((Mod.refl (fun _=>False) w3).after hb4) (fun h=>h))
   replace hI:=Lib.hid (hI.out.mod ((Mod.refl (fun _=>False) w3).after hb4))
   clear hb4 hlw hve
   by_cases hc0:c = 0
   ·subst hc0
    replace hR:=Lib.hid (show ∀ (j:Nat) (v:Ve),j < k + 1→fl[j]? = some v→vehV v = 0 from fun j u hj hu=>by
     by_cases e:j = k
     ·subst e; rw [hvk.out] at hu; cases hu; exact hc.out
     ·exact hR.out j u (by omega) hu)
    obtain ⟨pT',mT',cT',rfl⟩:=own_isS hI.out.own
    have hls:=Lib.hid (fun W (h:Mod (fun k=>M + 2≤k) w4 W)=>run_cellTr ((hI.out.box.mod h (by omega)).cell (i:=1) rfl))
    have hce:=Lib.hid (fun W (h:Mod (fun k=>M + 2≤k) w4 W)=>(hI.out.box.mod h (by omega)).cell (i:=1) rfl)
    have hfz:=Lib.hid (fun W (h:Mod (fun k=>M + 2≤k) w4 W)=>(hI.out.box.mod h (by omega)).froz 1)
    have hsz:=Lib.hid hI.out.sz
    have ho:=Lib.hid hI.out.own
    have hlen:k≤100000:=by omega
    have hold:=Lib.hid (show (trs0 fl k).flatten ++ trV v (none,0) 0 = (trs0 fl (k + 1)).flatten from hsuc.out.symm)
    generalize (trs0 fl k).flatten = xs at ho hold
    go_upto_region 9 with fail
    refine wp_region_rove (X:=Nat × Value) (0,undef) (fun x=>[(31,.pointer (some ⟨M + 1,0,none⟩)),(32,.pointer (some ⟨M + 1,0,none⟩)),(33,.pointer (some ⟨M + 1,0,none⟩)),(34,.pointer (some ⟨M + 1,1,none⟩)),(35,.slice pT' mT' cT'),(36,.agg Y),(37,.agg (trV v (none,0) 0).toArray),(38,.slice (some ⟨x.1,0,none⟩) 1 1),(39,x.2),(40,.pointer (some ⟨M + 1,0,none⟩)),(41,.pointer (some ⟨M + 1,1,none⟩))])
     (fun x d W'=>ClN (fun W=>Mod (fun k=>M + 2≤k) w4 W∧Blk W g Y 59) (fun W=>W.ownsRow (M + 2) 84 6 (.slice pT' mT' cT') k xs) (fun b W=>Blk W b (trV v (none,0) 0).toArray 84∧M + 2≤b) (fun v' W=>W.ownsRow (M + 2) 84 6 v' (k + 1) (xs ++ trV v (none,0) 0)) ⟨M + 1,1,none⟩ x (d 7) (d 8) (d 11) W') (by kernel_rfl) (by kernel_rfl) (by kernel_rfl) (by kernel_rfl) (fun x=>by kernel_rfl)
     ⟨_,rfl,⟨(Mod.refl _ _).drew,hG.out.drew⟩,(fun h=>by cases h),fun _=>⟨ho.out.drew,fun h=>by cases h⟩⟩ ?_ ?_
    ·intro aF hAF
     have E6:∀ x,(aF x).eval (.tmp 6) = .pointer (some ⟨M + 1,0,none⟩):=by intro x; rw [hAF]; kernel_rfl
     have E8:∀ x,(aF x).eval (.tmp 8) = .pointer (some ⟨g,0,none⟩):=by intro x; rw [hAF]; kernel_rfl
     have T31:∀ x,(aF x).tmps[31]? = some (.pointer (some ⟨M + 1,0,none⟩)):=by intro x; rw [hAF]; kernel_rfl
     have T32:∀ x,(aF x).tmps[32]? = some (.pointer (some ⟨M + 1,0,none⟩)):=by intro x; rw [hAF]; kernel_rfl
     have T33:∀ x,(aF x).tmps[33]? = some (.pointer (some ⟨M + 1,0,none⟩)):=by intro x; rw [hAF]; kernel_rfl
     have T34:∀ x,(aF x).tmps[34]? = some (.pointer (some ⟨M + 1,1,none⟩)):=by intro x; rw [hAF]; kernel_rfl
     have T35:∀ x,(aF x).tmps[35]? = some (.slice pT' mT' cT'):=by intro x; rw [hAF]; kernel_rfl
     have T36:∀ x,(aF x).tmps[36]? = some (.agg Y):=by intro x; rw [hAF]; kernel_rfl
     have T37:∀ x,(aF x).tmps[37]? = some (.agg (trV v (none,0) 0).toArray):=by intro x; rw [hAF]; kernel_rfl
     have T38:∀ x,(aF x).tmps[38]? = some (.slice (some ⟨x.1,0,none⟩) 1 1):=by intro x; rw [hAF]; kernel_rfl
     have T39:∀ x,(aF x).tmps[39]? = some (x.2):=by intro x; rw [hAF]; kernel_rfl
     have T40:∀ x,(aF x).tmps[40]? = some (.pointer (some ⟨M + 1,0,none⟩)):=by intro x; rw [hAF]; kernel_rfl
     have T41:∀ x,(aF x).tmps[41]? = some (.pointer (some ⟨M + 1,1,none⟩)):=by intro x; rw [hAF]; kernel_rfl
     replace hAF:=Lib.hid hAF
     refine ⟨?_,?_,?_,?_,?_,?_,?_,?_,?_,?_,?_,?_,trivial⟩
     ·exact oq T31 rfl rfl fun x d w' hd hc=>sv (run_mov rfl (E6 x)) hc
     ·exact oq T32 rfl rfl fun x d w' hd hc=>sv (run_mov rfl (E6 x)) hc
     ·exact oq T33 rfl rfl fun x d w' hd hc=>sv (run_nilP rfl (ev T32 x)) hc
     ·exact oq T34 rfl rfl fun x d w' hd hc=>sv (run_fldT rfl (ev T33 x) (fun _=>by kernel_rfl)) hc
     ·exact opOk3_quietL _ (by intro x t hd _; cases hd; exact T35 x) (fun _=>rfl) fun x d w' hd hn hc=>sv (run_load1 rfl (ev T34 x) (hls.out _ (by have n:=hn 11 (by kernel_rfl); rw [n] at hc; exact (ClN.j hc).1))) hc
     ·exact opOk3_quietL _ (by intro x t hd _; cases hd; exact T36 x) (fun _=>rfl) fun x d w' hd hn hc=>sv (run_load1 rfl (E8 x) (hlv.out _ (by have n:=hn 11 (by kernel_rfl); rw [n] at hc; exact (ClN.j hc).2))) hc
     ·exact oq T37 rfl rfl fun x d w' hd hc=>sv (run_bldTr rfl ((ev T36 x).trans (by rw [hY.out]))) hc
     ·exact opOk3_loud rfl fun x d w' hd hn hc=>by
        have n8:d 8 = false:=hn 8 (by kernel_rfl)
        have n11:d 11 = false:=hn 11 (by kernel_rfl)
        rw [n8,n11] at hc
        refine sk_v (run_bslTr rfl (ev T37 x)) ⟨(w'.heap.size,x.2),(by rw [hAF.out]; exact agree_set 7 (38,.slice (some ⟨x.1,0,none⟩) 1 1) rfl (by kernel_rfl)),(by intro t hd _; cases hd; exact T38 _),?_⟩
        show ClN _ _ _ _ _ (w'.heap.size,x.2) true (d 8) (d 11) _
        rw [n8,n11]
        obtain ⟨W0,rfl,⟨hJ1,hJ2⟩,_,h8⟩:=hc
        exact ⟨_,rfl,⟨hJ1.alloc _,hJ2.alloc _⟩,(fun h=>by cases h),fun _=>⟨own_mod (h8 rfl).1 ((Mod.refl (fun _=>False) _).alloc _) (fun _ _ h=>h),fun _=>⟨Blk.new _ _ _,Nat.le_trans hsz.out hJ1.size⟩⟩⟩
     ·exact opOk3_loud rfl fun x d w' hd hn hc=>by
        have n7:d 7 = true:=hd 7 (by kernel_rfl)
        have n11:d 11 = false:=hn 11 (by kernel_rfl)
        have n8:d 8 = false:=hn 8 (by kernel_rfl)
        rw [n7,n8,n11] at hc
        obtain ⟨W0,rfl,⟨hJ1,hJ2⟩,_,h8⟩:=hc
        obtain ⟨hO,hR2⟩:=h8 rfl
        obtain ⟨hB,_⟩:=hR2 rfl
        refine sk_app tr_el (M + 2) (Nat.le_trans hsz.out hJ1.size) _ k xs rfl (ev T35 x) hO hlen ⟨x.1,0,none⟩ 1 1 (trV v (none,0) 0) (ev T38 x) rfl (by omega) (row_cells hB) (tr_one _ _ _) ?_
        intro v' w'' h2 h3
        refine ⟨(x.1,v'),(by rw [hAF.out]; exact agree_set 8 (39,x.2) rfl (by kernel_rfl)),(by intro t hd _; cases hd; exact T39 _),?_⟩
        show ClN _ _ _ _ _ (x.1,v') (d 7) true (d 11) _
        rw [n11]
        exact ⟨_,rfl,⟨hJ1.grown h3 (fun k hk _=>(own_blk_lt hO hk).1),hJ2.mod ((Mod.refl (fun g'=>(Value.slice pT' mT' cT').ownBlock = some g') _).grown h3 (fun _ h _=>h)) (fun e=>own_ne hO e hJ2 (by decide) rfl)⟩,(fun _=>h2),fun h=>by cases h⟩
     ·exact oq T40 rfl rfl fun x d w' hd hc=>sv (run_nilP rfl (ev T31 x)) hc
     ·exact oq T41 rfl rfl fun x d w' hd hc=>sv (run_fldT rfl (ev T40 x) (fun _=>by kernel_rfl)) hc
     ·exact opOk3_loud rfl fun x d w' hd hn hc=>by
        have n8:d 8 = true:=hd 8 (by kernel_rfl)
        have n11:d 11 = false:=hn 11 (by kernel_rfl)
        rw [n8,n11] at hc
        obtain ⟨W0,rfl,hJ,hO',_⟩:=hc
        replace hO':=hO' rfl
        obtain ⟨p5,m5,c5,e5⟩:=own_isS hO'
        refine sk_s (run_storeTS rfl (ev T41 x) ((ev T39 x).trans e5) (hce.out _ hJ.1) (hfz.out _ hJ.1)) ⟨x,agree_same _ _,(by intro t hd _; cases hd),?_⟩
        show ClN _ _ _ _ _ x (d 7) (d 8) true _
        rw [n8]
        exact ⟨_,(by rw [e5]; rfl),hJ,(fun _=>hO'),fun h=>by cases h⟩
    ·intro x d w' hd hc
     simp only [putAll,List.foldl_cons,List.foldl_nil,Act.put,List.setIfInBounds_toArray,List.set_cons_succ,List.set_cons_zero]
     obtain ⟨W0,hW,hJ,hO',_⟩:=hc
     have d8:=hd 8 (by decide)
     have d11:=hd 11 (by decide)
     rw [d11] at hW
     replace hO':=hO' d8
     rw [hold.out] at hO'
     obtain ⟨n5,v5⟩:=x
     obtain ⟨p5,m5,c5,rfl⟩:=own_isS hO'
     have hI5:=Lib.hid (hI.out.next hJ.1 hO')
     have hW5:w' = W0.setCell ⟨M + 1,1,none⟩ (.slice p5 m5 c5):=hW
     replace hI:=Lib.hid (show NwI w w' M q dq fl t (k + 1) (.slice p5 m5 c5) from hW5 ▸ hI5.out)
     clear hJ hO' hls hce hfz ho hold hG hlv hW hW5 hI5 hd
     go_wp2_with fail
     go_roundw
     case rel=>exact ⟨k + 1,_,by omega,by simp,hR,hI.out⟩
     case measure=>simp [intOf]; omega
   ·have hc0':(c == 0) = false:=beq_eq_false_iff_ne.2 hc0
    have h2:=Lib.hid (newC_bad hN.out hvk.out (by rw [hc.out]; exact hc0))
    go_wp2_with fail
    go_ret2
    exact ⟨hI.out.low,.inl ⟨by rw [h2.out]; decide,by rw [h2.out]; rfl⟩⟩
  ·obtain rfl:k = n:=by omega
   have hN2:=Lib.hid (newC_ok hN.out (fun j v hj hv=>hR.out j v (by rw [← hn.out]; exact hj) hv))
   have hc:=Lib.hid (hcnt.out _ hI2.low)
   replace hI2:=Lib.hid hI2
   clear hR hcnt hF
   go_wp2_with fail
   refine hc.out.mono ?_
   rintro e w3 ⟨rfl,hb3⟩
   replace hI2:=Lib.hid (hI2.out.mod ((Mod.refl (fun _=>False) wr).after hb3))
   clear hb3 hc
   cases tb with
   | true=>
    go_wp2_with fail
    go_ret2
    exact ⟨hI2.out.low,.inl ⟨by rw [hN2.out]; decide,by rw [hN2.out]; rfl⟩⟩
   | false=>
    go_wp2_with fail
    go_ret2
    have hI3:=hI2.out
    rw [← hn.out] at hI3 hbig
    obtain ⟨gT,F,h1,h2⟩:=hI3.plan hbig hdq
    exact ⟨hI3.low,.inr ⟨by rw [hN2.out]; rfl,M + 1,gT,M,F,rfl,h1,h2⟩⟩
end
end
section
section
open Go.RowKit
theorem run_ixRs {ρ:Operand→Value} {o:Oper} {w:World} {x y:Operand} {a:Addr} {n c k:Nat} (ho:o.op = .indexAddr 106 x y) (hx:ρ x = .slice (some a) n c) (hy:ρ y = .int .i64 k) (hk:k < n):(execOp ρ o).run Tryz.prog w = .ok (.value (.pointer (some (a.add k)))) w:=by
 have h0:(0:Int)≤(k:Int):=by omega
 have h1:(k:Int) < (n:Int):=by omega
 have h2:((k:Int)).toNat = k:=by omega
 unfold execOp
 simp only [ho,hx,hy]
 go_simp
theorem rs_cell {w wx:World} {a:Addr} {rows:List Rou2} {qs:List (Option Addr × Nat)} (h:Els w (some a) 1 (rsV rows qs rows.length)) (hm:Mod (fun _=>False) w wx) {k:Nat} (hk:k < rows.length):wx.cell? (a.add k) = some (.slice (qs.getD k (none,0)).1 (rows.getD k []).length (qs.getD k (none,0)).2):=by
 have h1:=h.cells a rfl k [.slice (qs.getD k (none,0)).1 (rows.getD k []).length (qs.getD k (none,0)).2] 0 _ (by simp [rsV,hk]) rfl
 rw [Nat.mul_one,Nat.add_zero] at h1
 exact hm.cell_of (fun h=>h) h1
end
section
open Go.RowKit
theorem veR_lenP (F:List Ve):∀ x ∈ F.map veR,x.length = 5:=by
 intro x hx
 obtain ⟨s,_,rfl⟩:=List.mem_map.1 hx
 rfl
theorem ve_el:ElT Tryz.prog 60 59 5 40:=⟨Tryz.underlying60,by kernel_rfl,by kernel_rfl,by kernel_rfl,by omega,by omega⟩
theorem rsl_ve (v:Ve) (w:World):(Instr.buildSlice 60 1 #[(0,.agg (veR v).toArray)]).run Tryz.prog w = .ok (.slice (some ⟨w.heap.size,0,none⟩) 1 1) (w.alloc (.cells (veR v).toArray 59)):=by kernel_rfl
end
section
open Go.RowKit
theorem els_litP {w:World} {g n:Nat} {E:TypeId} {R:List (List Value)} (hB:Blk w g R.flatten.toArray E) (hl:∀ x ∈ R,x.length = n) (hb:R.length≤140737488351232):Els w (some ⟨g,0,none⟩) n R:=
 ⟨fun e=>(by cases e),hl,hb,fun a ha k x j v hk hj=>by
  cases ha
  rw [add0]
  exact hB.cell (by simpa using flat_at R k j x v hl hk hj)⟩
def prL (req:Int):Rou2:=[(req,0),(req,1)]
end
end
section
open Go.RowKit Go.Shelf Go.Sort
def soF:Nat→Nat
 | 5=>82
 | 7=>98
 | 8=>99
 | 10=>114
 | 11=>115
 | 12=>116
 | 13=>117
 | 14=>118
 | 15=>119
 | 16=>120
 | 17=>121
 | 18=>122
 | 19=>123
 | 20=>124
 | 30=>138
 | 31=>139
 | 32=>140
 | 33=>141
 | 34=>142
 | 35=>143
 | 40=>155
 | n=>n
def soT:Nat→Nat
 | 0=>0
 | 3=>3
 | 4=>4
 | 5=>5
 | 9=>9
 | 22=>35
 | 23=>35
 | 25=>3
 | 32=>112
 | 35=>204
 | 36=>205
 | 41=>95
 | 44=>211
 | 46=>67
 | 53=>222
 | 57=>226
 | 63=>235
 | 64=>215
 | n=>n
def soRen:Go.Shelf.Ren:=⟨soF,soT,fun n=>n⟩
theorem soLays:SlLaysM.n5 Tryz.prog soRen:={
 mixed:=by kernel_rfl,
 f5:=⟨Tryz.f82.name,by decide +kernel,by kernel_rfl⟩,
 f7:=⟨Tryz.f98.name,by decide +kernel,by kernel_rfl⟩,
 f8:=by kernel_rfl,
 f10:=⟨Tryz.f114.name,by decide +kernel,by kernel_rfl⟩,
 f11:=⟨Tryz.f115.name,by decide +kernel,by kernel_rfl⟩,
 f12:=⟨Tryz.f116.name,by decide +kernel,by kernel_rfl⟩,
 f13:=⟨Tryz.f117.name,by decide +kernel,by kernel_rfl⟩,
 f14:=⟨Tryz.f118.name,by decide +kernel,by kernel_rfl⟩,
 f15:=⟨Tryz.f119.name,by decide +kernel,by kernel_rfl⟩,
 f16:=⟨Tryz.f120.name,by decide +kernel,by kernel_rfl⟩,
 f17:=⟨Tryz.f121.name,by decide +kernel,by kernel_rfl⟩,
 f18:=⟨Tryz.f122.name,by decide +kernel,by kernel_rfl⟩,
 f19:=by kernel_rfl,
 f20:=by kernel_rfl,
 f30:=⟨Tryz.f138.name,by decide +kernel,by kernel_rfl⟩,
 f31:=by kernel_rfl,
 f32:=by kernel_rfl,
 f33:=⟨Tryz.f141.name,by decide +kernel,by kernel_rfl⟩,
 f34:=⟨Tryz.f142.name,by decide +kernel,by kernel_rfl⟩,
 f35:=⟨Tryz.f143.name,by decide +kernel,by kernel_rfl⟩,
 f40:=⟨Tryz.f155.name,by decide +kernel,by kernel_rfl⟩,
 t0:=by kernel_rfl,
 a0:=fun _=>by kernel_rfl,
 z0:=fun _=>by kernel_rfl,
 v0:=fun _=>by kernel_rfl,
 t3:=by kernel_rfl,
 a3:=fun _=>by kernel_rfl,
 z3:=fun _=>by kernel_rfl,
 v3:=fun _=>by kernel_rfl,
 t4:=by kernel_rfl,
 a4:=fun _=>by kernel_rfl,
 z4:=fun _=>by kernel_rfl,
 v4:=fun _=>by kernel_rfl,
 t5:=by kernel_rfl,
 a5:=fun _=>by kernel_rfl,
 z5:=fun _=>by kernel_rfl,
 v5:=fun _=>by kernel_rfl,
 t9:=by kernel_rfl,
 a9:=fun _=>by kernel_rfl,
 z9:=fun _=>by kernel_rfl,
 v9:=fun _=>by kernel_rfl,
 t22:=by kernel_rfl,
 a22:=fun _=>by kernel_rfl,
 z22:=fun _=>by kernel_rfl,
 v22:=fun _=>by kernel_rfl,
 t23:=by kernel_rfl,
 a23:=fun _=>by kernel_rfl,
 z23:=fun _=>by kernel_rfl,
 v23:=fun _=>by kernel_rfl,
 t25:=by kernel_rfl,
 a25:=fun _=>by kernel_rfl,
 z25:=fun _=>by kernel_rfl,
 v25:=fun _=>by kernel_rfl,
 t32:=by kernel_rfl,
 a32:=fun _=>by kernel_rfl,
 z32:=fun _=>by kernel_rfl,
 v32:=fun _=>by kernel_rfl,
 t35:=by kernel_rfl,
 a35:=fun _=>by kernel_rfl,
 z35:=fun _=>by kernel_rfl,
 v35:=fun _=>by kernel_rfl,
 t36:=by kernel_rfl,
 a36:=fun _=>by kernel_rfl,
 z36:=fun _=>by kernel_rfl,
 v36:=fun _=>by kernel_rfl,
 t41:=by kernel_rfl,
 a41:=fun _=>by kernel_rfl,
 z41:=fun _=>by kernel_rfl,
 v41:=fun _=>by kernel_rfl,
 t44:=by kernel_rfl,
 a44:=fun _=>by kernel_rfl,
 z44:=fun _=>by kernel_rfl,
 v44:=fun _=>by kernel_rfl,
 t46:=by kernel_rfl,
 a46:=fun _=>by kernel_rfl,
 z46:=fun _=>by kernel_rfl,
 v46:=fun _=>by kernel_rfl,
 t53:=by kernel_rfl,
 a53:=fun _=>by kernel_rfl,
 z53:=fun _=>by kernel_rfl,
 v53:=fun _=>by kernel_rfl,
 t57:=by kernel_rfl,
 a57:=fun _=>by kernel_rfl,
 z57:=fun _=>by kernel_rfl,
 v57:=fun _=>by kernel_rfl,
 t63:=by kernel_rfl,
 a63:=fun _=>by kernel_rfl,
 z63:=fun _=>by kernel_rfl,
 v63:=fun _=>by kernel_rfl,
 t64:=by kernel_rfl,
 a64:=fun _=>by kernel_rfl,
 z64:=fun _=>by kernel_rfl,
 v64:=fun _=>by kernel_rfl }
theorem inV_map (zs:List Int):(zs.map fun z=>[Value.int .i64 z]).flatten = zs.map (Value.int .i64):=by
 induction zs with
 | nil=>rfl
 | cons z zs ih=>simp [ih]
end
section
open Go.RowKit Go.Shelf Go.Sort
def kyF:Nat→Nat
 | 6=>53
 | 7=>54
 | 8=>81
 | 9=>82
 | 10=>83
 | 11=>97
 | n=>n
def kyT:Nat→Nat
 | 0=>0
 | 3=>3
 | 4=>4
 | 23=>86
 | 24=>35
 | 26=>3
 | 27=>120
 | 28=>121
 | 33=>69
 | n=>n
def kyRen:Go.Shelf.Ren:=⟨kyF,kyT,fun n=>n⟩
theorem ky6:SlLaysZI.n6 Tryz.prog kyRen:={
 mixed:=by kernel_rfl,
 f6:=⟨Tryz.f53.name,by decide +kernel,by kernel_rfl⟩,
 f8:=⟨Tryz.f81.name,by decide +kernel,by kernel_rfl⟩,
 f11:=⟨Tryz.f97.name,by decide +kernel,by kernel_rfl⟩,
 t0:=by kernel_rfl,
 a0:=fun _=>by kernel_rfl,
 z0:=fun _=>by kernel_rfl,
 v0:=fun _=>by kernel_rfl,
 t24:=by kernel_rfl,
 a24:=fun _=>by kernel_rfl,
 z24:=fun _=>by kernel_rfl,
 v24:=fun _=>by kernel_rfl,
 t26:=by kernel_rfl,
 a26:=fun _=>by kernel_rfl,
 z26:=fun _=>by kernel_rfl,
 v26:=fun _=>by kernel_rfl,
 t28:=by kernel_rfl,
 a28:=fun _=>by kernel_rfl,
 z28:=fun _=>by kernel_rfl,
 v28:=fun _=>by kernel_rfl,
 i26:=by kernel_rfl }
theorem ky7:SlLaysZI.n7 Tryz.prog kyRen:={
 mixed:=by kernel_rfl,
 f7:=⟨Tryz.f54.name,by decide +kernel,by kernel_rfl⟩,
 f10:=⟨Tryz.f83.name,by decide +kernel,by kernel_rfl⟩,
 t0:=by kernel_rfl,
 a0:=fun _=>by kernel_rfl,
 z0:=fun _=>by kernel_rfl,
 v0:=fun _=>by kernel_rfl,
 t4:=by kernel_rfl,
 a4:=fun _=>by kernel_rfl,
 z4:=fun _=>by kernel_rfl,
 v4:=fun _=>by kernel_rfl,
 t23:=by kernel_rfl,
 a23:=fun _=>by kernel_rfl,
 z23:=fun _=>by kernel_rfl,
 v23:=fun _=>by kernel_rfl,
 t26:=by kernel_rfl,
 a26:=fun _=>by kernel_rfl,
 z26:=fun _=>by kernel_rfl,
 v26:=fun _=>by kernel_rfl,
 t27:=by kernel_rfl,
 a27:=fun _=>by kernel_rfl,
 z27:=fun _=>by kernel_rfl,
 v27:=fun _=>by kernel_rfl,
 t28:=by kernel_rfl,
 a28:=fun _=>by kernel_rfl,
 z28:=fun _=>by kernel_rfl,
 v28:=fun _=>by kernel_rfl,
 t33:=by kernel_rfl,
 a33:=fun _=>by kernel_rfl,
 z33:=fun _=>by kernel_rfl,
 v33:=fun _=>by kernel_rfl }
theorem keys_of {w:World} {b n:Nat} {D:DataW Unit} {m:Int→Option Int} (h:w.ownsMap Tryz.prog 3 (plainElem Tryz.prog 3) b n D) (hv:∀ i:Int,Go.Maps.has D (.int .i64 i) = (m i).isSome) {ss:List Int} (hp:ss.Perm (intKeys D)):
  ss.Nodup∧∀ r,r ∈ ss↔(m r).isSome = true:=by
 obtain ⟨es,hD,hpw,_⟩:=h.entries (Go.Maps.int_keyed Tryz.underlying3)
 obtain ⟨es',hD',hko⟩:=h.keysOf
 obtain rfl:es = es':=by rw [hD] at hD'; simpa using hD'
 subst hD
 have hk:∀ p ∈ es,∃ x,p.1 = .int .i64 x:=fun p hp=>by
  obtain ⟨v,hv⟩:=hko p hp
  obtain ⟨x,_,hx,_⟩:=Maps.keyOf_i64 Tryz.underlying3 hv
  exact ⟨x,hx⟩
 have hnd:(intKeys (.map es)).Nodup:=by
  show (es.map fun p=>Go.intOf p.1).Nodup
  refine List.pairwise_map.2 (hpw.imp_of_mem fun {p q} hp' hq' hne e=>hne ?_)
  obtain ⟨a,ha⟩:=hk p hp'
  obtain ⟨b,hb⟩:=hk q hq'
  rw [ha,hb] at e ⊢
  exact congrArg _ e
 refine ⟨hp.nodup_iff.2 hnd,fun r=>?_⟩
 rw [hp.mem_iff,← hv r,Go.Maps.has_eq,List.any_eq_true]
 show r ∈ es.map (fun p=>Go.intOf p.1)↔_
 rw [List.mem_map]
 constructor
 ·rintro ⟨p,hp',rfl⟩
  obtain ⟨a,ha⟩:=hk p hp'
  exact ⟨p,hp',by rw [ha]; simp [Lit.sameKey,Go.intOf]⟩
 ·rintro ⟨p,hp',hs⟩
  obtain ⟨a,ha⟩:=hk p hp'
  rw [ha] at hs
  exact ⟨p,hp',by rw [ha]; simpa [Lit.sameKey,Go.intOf] using hs⟩
theorem kySorts (m:Nat):AnyZI.SortsIn Tryz.prog kyRen Fence.wide m:=
 ⟨fun blk off cap ss W hH hblk hsz=>callsIn_wide.2 (AnyM.slices_Sort_int soLays blk off cap ss W hH hblk hsz),
  fun p cap W=>callsIn_wide.2 (AnyM.slices_Sort_int_none soLays p cap W)⟩
theorem kyKeys (n:Nat) (mb:Option Nat) (W:World):CallsIn Fence.wide n Tryz.prog 54 #[.map mb] W fun e w'=>e = .returned (.func (.func 83) #[] #[.pointer (some ⟨W.heap.size,0,none⟩)])∧w' = W.alloc (.cells #[.map mb] 86):=
 AnyZI.keys_in ky7 Fence.wide n trivial rfl mb W
theorem kySorted {W:World} {b nn:Nat} {m:Int→Option Int} (h:MapV Tryz.prog 3 3 W b nn m) (hn:nn≤100000) {g:Nat} (hg:W.cell? ⟨g,0,none⟩ = some (.map (some b))):
  CallsIn Fence.wide 5 Tryz.prog 53 #[.func (.func 83) #[] #[.pointer (some ⟨g,0,none⟩)]] W fun e w'=>∃ (v:Value) (ss:List Int),e = .returned v∧(ss.Nodup∧∀ r,r ∈ ss↔(m r).isSome = true)∧
   w'.ownsRow W.heap.size 3 1 v ss.length ((ss.mergeSort (fun x y=>decide (x≤y))).map (Value.int .i64))∧Below W.heap.size W w':=by
 obtain ⟨D,h,hv⟩:=h
 have hsz:Go.Maps.size D≤nn:=by
  obtain ⟨es,clock,_,_,hs,rfl⟩:=h
  simpa [Go.Maps.size,DataW.length_sorted] using hs
 have hseq:SeqGives Fence.wide 2 Tryz.prog 83 #[.pointer (some ⟨g,0,none⟩)] encZ (fun ss=>ss.Perm (intKeys D)) (Go.Maps.size D) W:=
  AnyZI.keys_gives (ρ:=kyRen) { ky7 with } Fence.wide _ trivial rfl (by omega) g b nn D W (World.block_lt_of_cell? W _ hg) hg h
 have cS:=AnyZI.sorted_in ky6 Fence.wide 5 trivial trivial trivial trivial rfl (by omega) (kySorts _) (enters_of Tryz.func82 (by kernel_rfl) rfl) 83 #[.pointer (some ⟨g,0,none⟩)] trivial (enters_of Tryz.func83 (by kernel_rfl) rfl) _ _ (by unfold maxLen; omega) (by omega) _ hseq
 refine cS.mono ?_
 rintro e w' ⟨v,ss,rfl,hp,hO,_,hb⟩
 exact ⟨v,ss,rfl,keys_of h (fun i=>(hv i).2) hp,hO,hb⟩
end
end Go.Proofs.YtkaoflndbcfodaaGreat
