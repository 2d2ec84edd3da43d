/-
  The row 'DealTells': a pack of the texts DdArg Tk28 Ta28 Wk28, pruned to what the row uses.
-/
import Derived.Test.YtkaoflndbcfodaaGreatDealTellsQ29
namespace Go.Proofs.YtkaoflndbcfodaaGreat
set_option maxHeartbeats 8000000
set_option maxRecDepth 100000
section
section
open Go.ChangeShapes Go.WideShapes Go.ChangeAt Go.RowKit
section
variable {H:Type} {enc:TypeId × Value→H} {W:World} {base:Nat} {v:Value} {d:DataW H} {q:List MemPlace}
theorem open_byt {w:World} {fuel:Nat} {held:Bool} {cs:List Value} {x:DataW H × List MemPlace} (h:DataW.trod enc Tryz.prog w base (fun _=>true) held fuel 22 cs = some x):
  ∃ (p:Option Addr) (c:Nat) (B:List Int),DrA w p B 0 0∧cs.take 1 = [.slice p B.length c]:=by
 have c5:Tryz.prog.cellsOf 5 = 1:=by kernel_rfl
 have cS:Tryz.prog.cellsOf 22 = 1:=by kernel_rfl
 obtain ⟨p,L,c,e,hL,hLc,hcm,hb⟩:=open_rows (n:=1) (0:Int) u8V (fun b=>0≤b∧b < 256) (fun _=>rfl) Tryz.underlying22 c5 (fun _ _ _ h=>open_u8 h) h
 refine ⟨p,c,L,⟨fun i b hb=>?_,hb,by omega,by omega,by omega⟩,?_⟩
 ·cases p with
  | none=>
   have:=hL.nil rfl
   simp at this
   subst this
   simp at hb
  | some a=>
   have:=hL.cells a rfl i (u8V b) 0 (.int .u8 b) (by rw [List.getElem?_map,hb]; rfl) rfl
   rw [Nat.mul_one,Nat.add_zero] at this
   exact ⟨a,rfl,this⟩
 ·rw [e]
  rfl
theorem arg_draft28 (hv:Value.okWide Tryz.prog W .any base 26 v) (h:DataW.Trod enc Tryz.prog W 0 (fun _=>true) true 26 v d q):
  ∃ (p pw:Option Addr) (cp cw:Nat) (B Wh:List Int) (n wd k nn:Int),DrA W p B n wd∧DrA W pw Wh 0 0∧(0≤nn∧nn < 256)∧v = .agg (ddC p cp B n wd k pw Wh cw nn):=by
 obtain ⟨C,rfl,hsz0⟩:=okWide_struct Tryz.underlying26 hv
 have c6:Tryz.prog.cellsOf 26 = 6:=by kernel_rfl
 have c8:Tryz.prog.cellsOf 5 = 1:=by kernel_rfl
 have cS:Tryz.prog.cellsOf 22 = 1:=by kernel_rfl
 obtain ⟨fuel,hf⟩:=h
 obtain ⟨n0,y0,h0⟩:=fld_of Tryz.underlying26 hf 0 _ rfl
 obtain ⟨n1,y1,h1⟩:=fld_of Tryz.underlying26 hf 1 _ rfl
 obtain ⟨nn,en,wn⟩:=fld_int Tryz.underlying26 hf 2 _ rfl c8 Tryz.underlying5
 obtain ⟨p,cp,B,n,wd,k,hA,hr⟩:=open_dr h0
 obtain ⟨pw,cw,Wh,hW,ew⟩:=open_byt h1
 have e:C = (ddC p cp B n wd k pw Wh cw nn).toList.toArray:=agg_eq (by rw [hsz0,c6]; rfl) (fun j v hj=>by
  match j with
  | 0=>cases hj; exact part_at (hr 0 _ rfl)
  | 1=>cases hj; exact part_at (hr 1 _ rfl)
  | 2=>cases hj; exact part_at (hr 2 _ rfl)
  | 3=>cases hj; exact part_at (hr 3 _ rfl)
  | 4=>cases hj; exact part_at (i:=0) (by
    have:=congrArg (fun l:List Value=>l[0]?) ew
    simpa [Value.cells] using this)
  | 5=>cases hj; exact en
  | j + 6=>simp [ddC] at hj)
 exact ⟨p,pw,cp,cw,B,Wh,n,wd,k,nn,hA,hW,u8_of wn,by rw [e]⟩
end
end
end
section
open Go.RowKit
theorem tak_map {fl:List Ve} {rows:List Rou2} {t:List Rq} (hP:PlnOk fl rows t) (r:Int):rows.map (fun l=>woP l r) = (ptakP rows r).1:=by
 unfold ptakP
 by_cases h:whereP rows r < 0
 ·rw [if_pos h]
  show rows.map (fun l=>woP l r) = rows
  have:∀ l ∈ rows,woP l r = l:=fun l hl=>woP_none (fun s hs=>where_none h l hl s hs)
  rw [List.map_congr_left this,List.map_id']
 ·rw [if_neg h]
  obtain ⟨i,hi,e,s,hs,e2⟩:=where_some (by omega:0≤whereP rows r)
  rw [e,Int.toNat_natCast]
  have hgi:rows.getD i [] = rows[i]:=by rw [List.getD_eq_getElem?_getD,List.getElem?_eq_getElem hi]; rfl
  apply List.ext_getElem (by simp)
  intro j h1 h2
  rw [List.length_map] at h1
  rw [List.getElem_map,List.getElem_set]
  by_cases hij:i = j
  ·rw [if_pos hij]
   subst hij
   rw [hgi]
  ·rw [if_neg hij]
   refine woP_none (fun s' hs' e3=>hij ?_)
   have hgj:rows.getD j [] = rows[j]:=by rw [List.getD_eq_getElem?_getD,List.getElem?_eq_getElem h1]; rfl
   exact hP.one i j s s' (by rw [hgi]; exact hs) (by rw [hgj]; exact hs') (e2.trans e3.symm)
def TkPost (w:World) (F:Nat→Prop) (d gR:Nat) (fls:List (List Ve)) (Rs:List (List Rou2)) (t:List Rq) (qF:Option Addr) (cF:Nat) (pf:List (Option Addr × Nat)) (cR:Nat) (qT:Option Addr) (cT:Nat) (vH:Value) (c:Nat) (N:List Rou2) (e:Ending) (w':World):Prop:=
 e = .returned (.tuple #[])∧Mod (· = gR) w w'∧∃ F' pr' qss',(∀ k,F' k→F k∨w.heap.size≤k)∧(∀ lo,TyF w F lo→TyF w' F' lo)∧RdIn w' F' d gR fls (Rs.set c N) t qF cF pf cR pr' qss' qT cT vH
theorem rtake28_calls {w:World} {F:Nat→Prop} {d gR:Nat} {fls:List (List Ve)} {Rs:List (List Rou2)} {t:List Rq} {qF qT:Option Addr} {cF cR cT:Nat} {pf pr:List (Option Addr × Nat)} {qss:List (List (Option Addr × Nat))} {vH:Value}
  (h:RdIn w F d gR fls Rs t qF cF pf cR pr qss qT cT vH) {c:Nat} (r:Int) (hc:c < fls.length) (hP:PlnOk (fls.getD c []) (Rs.getD c []) t):
  Calls Tryz.prog 48 #[.pointer (some ⟨d,0,none⟩),.int .i64 (c:Int),.int .i64 r] w (TkPost w F d gR fls Rs t qF cF pf cR qT cT vH c (ptakP (Rs.getD c []) r).1):=by
 have hB1x:=Lib.hid (fun wx (hm:Mod (fun _=>False) w wx)=>run_cR28 ((h.box.mod hm (fun h=>h)).cell (i:=1) rfl))
 have hRc:=Lib.hid (fun wx (hm:Mod (fun _=>False) w wx)=>run_cS28 (hm.cell_of (fun h=>h) (h.rcell hc)))
 have hN1:1≤(Rs.getD c []).length∧(Rs.getD c []).length≤4:=by rw [hP.len]; exact hP.many
 have hr16:Hid (∀ i,((Rs.getD c []).getD i []).length≤1000):=Lib.hid (fun i=>by
  by_cases hi:i < (fls.getD c []).length
  ·have:=(hP.right i hi).2.2.1; omega
  ·rw [List.getD_eq_getElem?_getD,List.getElem?_eq_none (by rw [hP.len]; omega)]
   simp)
 have H:=Lib.hid h
 have hc9:=hc
 rw [← tak_map hP]
 obtain ⟨n,hn⟩:∃ n,fls.length = n:=⟨_,rfl⟩
 rw [hn] at hB1x hc9
 obtain ⟨m,hm⟩:∃ m,(Rs.getD c []).length = m:=⟨_,rfl⟩
 rw [hm] at hRc hN1
 obtain ⟨qr,dr,hpr⟩:∃ qr dr,pr.getD c (none,0) = (qr,dr):=⟨_,_,rfl⟩
 rw [hpr] at hRc
 dsimp only at hRc
 clear h hP hn
 replace hm:=Lib.hid hm
 replace hpr:=Lib.hid hpr
 obtain ⟨aR,haR⟩:=((H.out.rws c hc).rws).some_of (k:=0) (by rw [rsV_size,hm.out]; omega)
 rw [hpr.out] at haR
 dsimp only at haR
 subst haR
 have hrw0:=Lib.hid (fun i (hi:i < m) wx (hx:Mod (fun _=>False) w wx)=>(by
  have h1:=(H.out.rws c hc).rws
  rw [hpr.out] at h1
  exact run_row14 (rs_cell h1 hx (k:=i) (by rw [hm.out]; exact hi)):(loadVar 82 (aR.add i)).run Tryz.prog wx = .ok (.slice ((qss.getD c []).getD i (none,0)).1 ((Rs.getD c []).getD i []).length ((qss.getD c []).getD i (none,0)).2) wx))
 have hwi:=Lib.hid (fun i (hi:i < m) wx (hx:Mod (fun _=>False) w wx)=>rwithout_callsB ((qss.getD c []).getD i (none,0)).1 ((qss.getD c []).getD i (none,0)).2 ((Rs.getD c []).getD i []) r wx (els_modP ((H.out.rws c hc).row i (by rw [hm.out]; exact hi)) hx (fun _ _ _ h=>h)) (hr16.out i))
 obtain ⟨rows,hrows⟩:∃ rows,Rs.getD c [] = rows:=⟨_,rfl⟩
 rw [hrows] at hrw0 hwi hm ⊢
 obtain ⟨N,hN⟩:∃ N,rows.map (fun l=>woP l r) = N:=⟨_,rfl⟩
 rw [hN]
 have hNl:N.length = m:=by rw [← hN,List.length_map]; exact hm.out
 have hNk:∀ i,i < m→N.getD i [] = woP (rows.getD i []) r:=fun i hi=>by
  have hi':i < rows.length:=by rw [hm.out]; exact hi
  rw [← hN,List.getD_eq_getElem?_getD,List.getElem?_map,List.getD_eq_getElem?_getD,List.getElem?_eq_getElem hi']
  rfl
 obtain ⟨qs0,hqs0⟩:∃ qs0,qss.getD c [] = qs0:=⟨_,rfl⟩
 rw [hqs0] at hrw0 hwi
 obtain ⟨B1,hB1⟩:∃ B1,w.heap.size = B1:=⟨_,rfl⟩
 have hFB:=Lib.hid (fun k (hk:F k)=>(by have:=H.out.lt.1 k hk; omega:k < B1))
 have hB1s:=Lib.hid hB1
 have hm4:=hN1.2
 replace hNl:=Lib.hid hNl
 replace hNk:=Lib.hid hNk
 clear hB1 hN1 hN hrows hqs0 hr16
 go_enter Tryz.func48,Tryz.ntmps48
 go_wp2_with fail
 go_loopw [6,7] (fun s6 s7 wx=>∃ (v:Nat) (qs:List (Option Addr × Nat)),v≤m∧s7 = .int .i64 v∧qs.length = v∧wx.ownsRow B1 82 1 s6 v (rsV N qs v).flatten∧RpI F B1 N qs v wx∧Mod (fun _=>False) w wx) (fun _ s7 _=>m - (intOf s7).toNat)
 case atStart=>exact ⟨0,[],Nat.zero_le _,rfl,rfl,World.ownsRow_nil _ _ _ _,(fun i (hi:i < 0)=>by omega),Mod.refl _ _⟩
 case round=>
  obtain ⟨v,qs,hv,rfl,hql,hO,hI,hmw⟩:=hrel
  obtain ⟨q9,m9,d9,rfl⟩:=own_isS hO
  have hB1w:=Lib.hid (hB1x.out _ hmw)
  have hRcw:=Lib.hid (hRc.out _ hmw)
  by_cases hlt:v < m
  ·have hltI:(v:Int) < (m:Int):=by omega
   have hv0:(0:Int)≤(v:Int):=by omega
   have s1:IntKind.i64.wrap ((v:Int) + 1) = (v:Int) + 1:=IntWalk.i64_in _ (by omega)
   have hrw:=hrw0.out v hlt _ hmw
   have hwc:=hwi.out v hlt _ hmw
   have hnN:=hNk.out v hlt
   rw [← hnN] at hwc
   obtain ⟨M,hM⟩:∃ M,N.getD v [] = M:=⟨_,rfl⟩
   rw [hM] at hwc
   obtain ⟨lk,hlk⟩:∃ lk,(rows.getD v []).length = lk:=⟨_,rfl⟩
   obtain ⟨qk,dk,hqk⟩:∃ qk dk,qs0.getD v (none,0) = (qk,dk):=⟨_,_,rfl⟩
   rw [hlk,hqk] at hwc hrw
   dsimp only at hwc hrw
   replace hwc:=Lib.hid hwc
   replace hrw:=Lib.hid hrw
   replace hM:=Lib.hid hM
   replace hO:=Lib.hid hO
   replace hI:=Lib.hid hI
   replace hmw:=Lib.hid hmw
   replace hql:=Lib.hid hql
   clear hnN hlk hqk
   go_wp2_with (first | (refine wpList_load_v rfl 37 _ rfl ⟨d,1,none⟩ rfl _ hB1w.out ?_) | (refine wpList_v rfl (.pointer (some ((⟨gR,0,none⟩:Addr).add c))) (run_ixR28 (k:=c) rfl rfl rfl hc9) ?_) | (refine wpList_load_v rfl 106 _ rfl ((⟨gR,0,none⟩:Addr).add c) rfl _ hRcw.out ?_) | (refine wpList_v rfl (.pointer (some (aR.add v))) (run_ixRs (k:=v) rfl rfl rfl hlt) ?_) | (refine wpList_load_v rfl 82 _ rfl (aR.add v) rfl _ hrw.out ?_))
   refine hwc.out.mono ?_
   clear hwc hB1w hRcw hrw
   rintro e w4 ⟨⟨q4,d4,rfl,hd4,hE4,hN4⟩,hb4⟩
   have hnew:RowF w4 F B1 (q4,d4) M:=⟨hE4,hd4,fun x hx h0=>.inr ⟨by have:=(hN4 x hx).1; have:=hmw.out.size; have:=hB1s.out; omega,(hN4 x hx).2⟩⟩
   have hnl:(N.getD v []).length = M.length:=by rw [hM.out]
   rw [← hM.out] at hnew
   replace hnew:=Lib.hid hnew
   replace hO:=Lib.hid (own_below hO.out hb4)
   replace hI:=Lib.hid (show RpI F B1 N qs v w4 from fun i hi=>RowF.mod (hI.out i hi) ((Mod.refl (fun _=>False) _).after hb4) (fun _ _ h=>h) (fun _ _ _ _ h=>h))
   replace hmw:=Lib.hid (hmw.out.after hb4)
   obtain ⟨lM,hlM⟩:∃ lM,M.length = lM:=⟨_,rfl⟩
   rw [hlM] at hnl ⊢
   replace hlM:=Lib.hid hlM
   clear hb4 hE4 hd4 hN4
   have hOA:=Lib.hid (own_mod hO.out ((Mod.refl (fun _=>False) w4).alloc (.cells #[.slice q4 lM d4] 82)) (fun _ _ h=>h))
   have hmA:=Lib.hid (hmw.out.alloc (.cells #[.slice q4 lM d4] 82))
   have hzA:=Lib.hid (show B1≤(w4.alloc (.cells #[.slice q4 lM d4] 82)).heap.size from by have:=hmw.out.size; have:=hB1s.out; simp; omega)
   have hI2:∀ i,i < v + 1→RowF (w4.alloc (.cells #[.slice q4 lM d4] 82)) F B1 ((qs ++ [(q4,d4)]).getD i (none,0)) (N.getD i []):=fun i hi=>by
    by_cases hik:i < v
    ·have e:(qs ++ [(q4,d4)]).getD i (none,0) = qs.getD i (none,0):=by
      rw [List.getD_eq_getElem?_getD,List.getD_eq_getElem?_getD,List.getElem?_append_left (by rw [hql.out]; omega)]
     rw [e]
     exact RowF.mod (hI.out i hik) ((Mod.refl (fun _=>False) w4).alloc _) (fun _ _ h=>h) (fun _ _ _ _ h=>h)
    ·obtain rfl:i = v:=by omega
     have e:(qs ++ [(q4,d4)]).getD i (none,0) = (q4,d4):=by
      rw [List.getD_eq_getElem?_getD,List.getElem?_append_right (by rw [hql.out]; omega),hql.out,Nat.sub_self]
      rfl
     rw [e]
     exact RowF.mod hnew.out ((Mod.refl (fun _=>False) w4).alloc _) (fun _ _ h=>h) (fun _ _ _ _ h=>h)
   have hsk:=Lib.hid (rsV_succ N qs hql.out q4 d4)
   have hnl2:=Lib.hid hnl
   replace hI2:=Lib.hid hI2
   clear hO hI hmw hnew hnl
   go_wp2_with (first | (refine wpList_bs1 rfl 106 1 0 _ rfl (.slice q4 lM d4) rfl _ _ (rsl_rs _ _ _ _) ?_) |
    (refine wpList_appG rs_el rfl _ _ rfl B1 hzA.out _ v _ rfl hOA.out (by omega) ⟨w4.heap.size,0,none⟩ 1 1 [.slice q4 lM d4] rfl rfl (by omega) (row_cells (Blk.new w4 _ _)) (by simp [Value.oneCell']) ?_; intro v7 w7 hO7 hg7))
   have hm7:=Lib.hid ((hmA.out.mono (T:=fun k=>B1≤k) (fun _ _ h=>h.elim)).grown hg7 (fun k hk _=>by have:=hOA.out.lt k hk; omega))
   have hm7':Mod (fun _=>False) w w7:=⟨hm7.out.os,hm7.out.tape,hm7.out.output,hm7.out.size,fun k hk hs=>hm7.out.block k hk (by have:=hB1s.out; omega)⟩
   have hI7:RpI F B1 N (qs ++ [(q4,d4)]) (v + 1) w7:=fun i hi=>
    RowF.mod (hI2.out i hi) ((Mod.refl (fun g'=>(Value.slice q9 m9 d9).ownBlock = some g') _).grown hg7 (fun _ h _=>h)) (fun k hk e=>by have:=hOA.out.lt k e; have:=hFB.out k hk; omega) (fun g C _ hB e=>own_ne hOA.out e hB (by decide) rfl)
   have hO8:w7.ownsRow B1 82 1 v7 (v + 1) (rsV N (qs ++ [(q4,d4)]) (v + 1)).flatten:=by
    rw [hsk.out,List.flatten_append,hnl2.out]
    simpa using hO7
   replace hI7:=Lib.hid hI7
   replace hO8:=Lib.hid hO8
   replace hm7':=Lib.hid hm7'
   clear hO7 hg7 hOA hzA hmA hI2 hm7
   go_roundw
   case rel=>exact ⟨v + 1,qs ++ [(q4,d4)],by omega,by simp,by rw [List.length_append,hql.out]; rfl,hO8.out,hI7.out,hm7'.out⟩
   case measure=>simp [intOf]; omega
  ·obtain rfl:v = m:=by omega
   obtain rfl:v = m9:=by have:=own_lenC hO; omega
   have hEl:=own_els (R:=rsV N qs v) (rsV_len _ _ _) (by rw [rsV_size]; exact hO) (by rw [rsV_size]; omega)
   rw [rsV_size] at hEl
   obtain ⟨h1,-,h3,h4⟩:=hEl
   obtain ⟨hmP,F',hF',hTy,hRd⟩:=H.out.put hc hmw (N:=N) (qs:=qs) (q:=q9) (dN:=d9) (by rw [hNl.out]; exact h1) (fun a ha=>⟨by have:=(h4 a ha).1; have:=hB1s.out; omega,own_blkB hO ha⟩) (fun i hi=>by rw [hB1s.out]; exact hI i (by rw [← hNl.out]; exact hi)) (by rw [hql,hNl.out])
   rw [hNl.out,addr0_28] at hmP hRd hTy
   have hck:wr.cell? ⟨gR,c,none⟩ = some (.slice (pr.getD c (none,0)).1 (Rs.getD c []).length (pr.getD c (none,0)).2):=by
    have:=(H.out.mod hmw (fun _ h=>h.elim) (fun h=>h) (fun h=>h)).rcell hc
    rwa [addr0_28] at this
   have hfz:wr.frozen? ⟨gR,c,none⟩ = false:=by
    obtain ⟨C,hC⟩:=(H.out.mod hmw (fun _ h=>h.elim) (fun h=>h) (fun h=>h)).tb
    exact hC.froz c
   have hP9:TkPost w F d gR fls Rs t qF cF pf cR qT cT vH c N (.returned (.tuple #[])) (wr.setCell ⟨gR,c,none⟩ (.slice q9 v d9)):=⟨rfl,hmP,F',_,_,hF',hTy,hRd⟩
   replace hP9:=Lib.hid hP9
   replace hck:=Lib.hid hck
   replace hfz:=Lib.hid hfz
   clear hmw hO hI h1 h3 h4 hql hmP hRd hTy hF'
   go_upto_region 5 with (first | (refine wpList_load_v rfl 37 _ rfl ⟨d,1,none⟩ rfl _ hB1w.out ?_) | (refine wpList_v rfl (.pointer (some ((⟨gR,0,none⟩:Addr).add c))) (run_ixR28 (k:=c) rfl rfl rfl hc9) ?_) | (refine wpList_load_v rfl 106 _ rfl ((⟨gR,0,none⟩:Addr).add c) rfl _ hRcw.out ?_))
   replace hck:=hck.out
   replace hfz:=hfz.out
   go_wp2_with (first | (refine wpList_load_v rfl 37 _ rfl ⟨d,1,none⟩ rfl _ hB1w.out ?_) | (refine wpList_v rfl (.pointer (some ((⟨gR,0,none⟩:Addr).add c))) (run_ixR28 (k:=c) rfl rfl rfl hc9) ?_))
   go_end0
   exact hP9.out
end
section
open Go.RowKit
theorem srows_calls (p q:Option Addr) (c d:Nat) (A B:List Rou2) (qa qb:List (Option Addr × Nat)) (w:World) (hA:Els w p 1 (rsV A qa A.length)) (hB:Els w q 1 (rsV B qb B.length)) (hbig:A.length≤100000)
  (ha:∀ i,i < A.length→Els w (qa.getD i (none,0)).1 2 ((A.getD i []).map stV)) (hb:∀ i,i < B.length→Els w (qb.getD i (none,0)).1 2 ((B.getD i []).map stV)):
  Calls Tryz.prog 44 #[.slice p A.length c,.slice q B.length d] w fun e w'=>e = .returned (.bool (decide (A = B)))∧Below w.heap.size w w':=by
 by_cases hl:A.length = B.length
 ·have hX:Hid (decide (A = B) = true↔∀ k,k < A.length→A.getD k [] = B.getD k []):=Lib.hid ⟨fun h k h1=>by have e:=of_decide_eq_true h; subst e; rfl,fun h=>decide_eq_true (rows_ext hl h)⟩
  generalize decide (A = B) = X at *
  replace hA:=Lib.hid hA
  replace hB:=Lib.hid hB
  replace ha:=Lib.hid ha
  replace hb:=Lib.hid hb
  go_enter Tryz.func44,Tryz.ntmps44
  rw [← hl]
  replace hl:=Lib.hid hl
  go_wp2_with fail
  go_loopw [5] (fun s5 wx=>∃ k:Nat,k≤A.length∧s5 = .int .i64 k∧Hid (∀ j,j < k→A.getD j [] = B.getD j [])∧Mod (fun _=>False) w wx) (fun s5 _=>A.length - (intOf s5).toNat)
  case atStart=>exact ⟨0,Nat.zero_le _,rfl,Lib.hid (fun j h=>by omega),Mod.refl _ _⟩
  case round=>
   obtain ⟨k,hk,rfl,hR,hm⟩:=hrel
   by_cases hlt:k < A.length
   ·have hltI:(k:Int) < (A.length:Int):=by omega
    have hk0:(0:Int)≤(k:Int):=by omega
    have s1:IntKind.i64.wrap ((k:Int) + 1) = (k:Int) + 1:=IntWalk.i64_in _ (by omega)
    have hltB:k < B.length:=by rw [← hl.out]; exact hlt
    obtain ⟨a,e⟩:=hA.out.some_of (k:=k) (by rw [rsV_size]; exact hlt)
    subst e
    obtain ⟨b,e⟩:=hB.out.some_of (k:=k) (by rw [rsV_size]; exact hltB)
    subst e
    have hla:=fun wx (h:Mod (fun _=>False) wr wx)=>run_cellSt (rs_cell hA.out (hm.trans h) hlt)
    have hlb:=fun wx (h:Mod (fun _=>False) wr wx)=>run_cellSt (rs_cell hB.out (hm.trans h) hltB)
    have hsm:=fun wx (h:Mod (fun _=>False) wr wx)=>rsame_calls (qa.getD k (none,0)).1 (qb.getD k (none,0)).1 (qa.getD k (none,0)).2 (qb.getD k (none,0)).2 (A.getD k []) (B.getD k []) wx (els_modP (ha.out k hlt) (hm.trans h) (fun _ _ _ h=>h)) (els_modP (hb.out k hltB) (hm.trans h) (fun _ _ _ h=>h))
    have hno:Hid (A.getD k [] ≠ B.getD k []→X = false):=Lib.hid (fun h=>by
     cases X with
     | false=>rfl
     | true=>exact absurd (hX.out.1 rfl k hlt) h)
    have hR':Hid (A.getD k [] = B.getD k []→∀ j,j < k + 1→A.getD j [] = B.getD j []):=Lib.hid (fun h j hj=>by
     by_cases e:j = k
     ·subst e; exact h
     ·exact hR.out j (by omega))
    clear hR
    generalize A.getD k [] = lA at hla hsm hno hR'
    generalize B.getD k [] = lB at hlb hsm hno hR'
    generalize (qa.getD k (none,0)).1 = qk at *
    generalize (qa.getD k (none,0)).2 = dk at *
    generalize (qb.getD k (none,0)).1 = q2 at *
    generalize (qb.getD k (none,0)).2 = d2 at *
    replace hla:=Lib.hid hla
    replace hlb:=Lib.hid hlb
    replace hsm:=Lib.hid hsm
    obtain ⟨g,hg⟩:∃ g,decide (lA = lB) = g:=⟨_,rfl⟩
    rw [hg] at hsm
    replace hg:=Lib.hid hg
    replace hm:=Lib.hid hm
    go_upto_region 6 with fail
    refine wp_region_rove (X:=Unit) () (fun x=>[(17,.slice (some a) A.length c),(18,.int .i64 k),(19,.pointer (some (a.add k))),(20,.slice qk lA.length dk),(21,.slice (some b) A.length d),(22,.int .i64 k),(23,.pointer (some (b.add k))),(24,.slice q2 lB.length d2),(25,.bool g),(26,.bool (!g))])
     (fun x d W'=>Mod (fun _=>False) wr W') (by kernel_rfl) (by kernel_rfl) (by kernel_rfl) (by kernel_rfl) (fun x=>by kernel_rfl)
     (Mod.refl _ _).drew ?_ ?_
    ·intro aF hAF
     have E0:∀ x,(aF x).eval (.tmp 0) = .slice (some a) A.length c:=by intro x; rw [hAF]; kernel_rfl
     have E1:∀ x,(aF x).eval (.tmp 1) = .slice (some b) A.length d:=by intro x; rw [hAF]; kernel_rfl
     have E5:∀ x,(aF x).eval (.tmp 5) = .int .i64 k:=by intro x; rw [hAF]; kernel_rfl
     have T17:∀ x,(aF x).tmps[17]? = some (.slice (some a) A.length c):=by intro x; rw [hAF]; kernel_rfl
     have T18:∀ x,(aF x).tmps[18]? = some (.int .i64 k):=by intro x; rw [hAF]; kernel_rfl
     have T19:∀ x,(aF x).tmps[19]? = some (.pointer (some (a.add k))):=by intro x; rw [hAF]; kernel_rfl
     have T20:∀ x,(aF x).tmps[20]? = some (.slice qk lA.length dk):=by intro x; rw [hAF]; kernel_rfl
     have T21:∀ x,(aF x).tmps[21]? = some (.slice (some b) A.length d):=by intro x; rw [hAF]; kernel_rfl
     have T22:∀ x,(aF x).tmps[22]? = some (.int .i64 k):=by intro x; rw [hAF]; kernel_rfl
     have T23:∀ x,(aF x).tmps[23]? = some (.pointer (some (b.add k))):=by intro x; rw [hAF]; kernel_rfl
     have T24:∀ x,(aF x).tmps[24]? = some (.slice q2 lB.length d2):=by intro x; rw [hAF]; kernel_rfl
     have T25:∀ x,(aF x).tmps[25]? = some (.bool g):=by intro x; rw [hAF]; kernel_rfl
     have T26:∀ x,(aF x).tmps[26]? = some (.bool (!g)):=by intro x; rw [hAF]; kernel_rfl
     replace hAF:=Lib.hid hAF
     refine ⟨?_,?_,?_,?_,?_,?_,?_,?_,?_,?_,trivial⟩
     ·exact oq T17 rfl rfl fun x d w' hd hc=>sv (run_mov rfl (E0 x)) hc
     ·exact oq T18 rfl rfl fun x d w' hd hc=>sv (run_mov rfl (E5 x)) hc
     ·exact oq T19 rfl rfl fun x d w' hd hc=>sv (run_ixRs rfl (ev T17 x) (ev T18 x) hlt) hc
     ·exact oq T20 rfl rfl fun x d w' hd hc=>sv (run_load1 rfl (ev T19 x) (hla.out _ hc)) hc
     ·exact oq T21 rfl rfl fun x d w' hd hc=>sv (run_mov rfl (E1 x)) hc
     ·exact oq T22 rfl rfl fun x d w' hd hc=>sv (run_mov rfl (E5 x)) hc
     ·exact oq T23 rfl rfl fun x d w' hd hc=>sv (run_ixRs rfl (ev T21 x) (ev T22 x) hlt) hc
     ·exact oq T24 rfl rfl fun x d w' hd hc=>sv (run_load1 rfl (ev T23 x) (hlb.out _ hc)) hc
     ·exact oq T25 rfl rfl fun x d w' hd hc=>sc (run_callSm rfl (ev T20 x) (ev T24 x)) ((hsm.out w' hc).mono fun e w'' h=>⟨h.1,hc.after h.2⟩)
     ·exact oq T26 rfl rfl fun x d w' hd hc=>sv (run_notS rfl (ev T25 x)) hc
    ·intro x d w' hd hc
     simp only [putAll,List.foldl_cons,List.foldl_nil,Act.put,List.setIfInBounds_toArray,List.set_cons_succ,List.set_cons_zero]
     have hm2:=Lib.hid (hm.out.trans hc)
     clear hc hsm hla hlb hm hd
     cases g with
     | false=>
      obtain rfl:X = false:=hno.out (of_decide_eq_false hg.out)
      clear hno hR' hX
      go_wp2
      go_ret
      exact ⟨rfl,hm2.out.below (Nat.le_refl _) (fun _ h=>h.elim)⟩
     | true=>
      have hR2:=Lib.hid (hR'.out (of_decide_eq_true hg.out))
      clear hno hR'
      go_wp2_with fail
      go_roundw
      case rel=>exact ⟨k + 1,by omega,by simp,hR2,hm2.out⟩
      case measure=>simp [intOf]; omega
   ·obtain rfl:X = true:=hX.out.2 (fun j h1=>hR.out j (by omega))
    clear hX hR
    replace hm:=Lib.hid hm
    go_wp2
    go_ret
    exact ⟨rfl,hm.out.below (Nat.le_refl _) (fun _ h=>h.elim)⟩
 ·have hX:decide (A = B) = false:=decide_eq_false (fun e=>hl (by rw [e]))
  rw [hX]
  have n1:((A.length:Int) != (B.length:Int)) = true:=by simpa using (show ¬ (A.length:Int) = (B.length:Int) by omega)
  have n2:(A.length != B.length) = true:=by simpa using hl
  go_enter Tryz.func44,Tryz.ntmps44
  go_wp2
  go_ret
  exact ⟨rfl,Below.refl _ _⟩
theorem addr_3T (b:Addr):b.add 3 = ⟨b.block,b.off + 3,none⟩:=by unfold Addr.add; simp
theorem rof28_calls {w:World} {F:Nat→Prop} {d gR:Nat} {fls:List (List Ve)} {Rs:List (List Rou2)} {t:List Rq} {qF qT:Option Addr} {cF cR cT:Nat} {pf pr:List (Option Addr × Nat)} {qss:List (List (Option Addr × Nat))} {vH:Value}
  (h:RdIn w F d gR fls Rs t qF cF pf cR pr qss qT cT vH) {c:Nat} (hc:c < fls.length) (hP:PlnOk (fls.getD c []) (Rs.getD c []) t):
  Calls Tryz.prog 69 #[.pointer (some ⟨d,0,none⟩),.int .i64 (c:Int)] w fun e w'=>e = .returned (.int .i64 (totP (fls.getD c []) (Rs.getD c []) t))∧Below w.heap.size w w':=by
 have hfl:=hP.many
 obtain ⟨aG,rfl,hfc⟩:=h.fcell hc
 have hB0:=Lib.hid (fun wx (hm:Mod (fun _=>False) w wx)=>run_cF28 ((h.box.mod hm (fun h=>h)).cell (i:=0) rfl))
 have hB1:=Lib.hid (fun wx (hm:Mod (fun _=>False) w wx)=>run_cR28 ((h.box.mod hm (fun h=>h)).cell (i:=1) rfl))
 have hB2:=Lib.hid (fun wx (hm:Mod (fun _=>False) w wx)=>run_cT28 ((h.box.mod hm (fun h=>h)).cell (i:=2) rfl))
 have hFc:=Lib.hid (fun wx (hm:Mod (fun _=>False) w wx)=>run_cV28 (hm.cell_of (fun h=>h) hfc))
 have hRc:=Lib.hid (fun wx (hm:Mod (fun _=>False) w wx)=>run_cS28 (hm.cell_of (fun h=>h) (h.rcell hc)))
 have hfe:=h.flt c hc
 have hrx:=h.rws c hc
 have hreq:=h.req
 have hlen:=hP.len
 have hstp:=Lib.hid (fun k (hk:k < (fls.getD c []).length)=>(⟨totV_bd (hP.right k hk),totK_bd hP k (by omega)⟩:(_∧_)))
 obtain ⟨tot,htot0,htotS,htotE⟩:∃ tot:Nat→Int,tot 0 = 0∧(∀ k,tot (k + 1) = tot k + totV ((fls.getD c []).getD k ve0) ((Rs.getD c []).getD k []) t∧tot k = totK (fls.getD c []) (Rs.getD c []) t k)∧totP (fls.getD c []) (Rs.getD c []) t = tot (fls.getD c []).length:=⟨totK (fls.getD c []) (Rs.getD c []) t,rfl,fun _=>⟨rfl,rfl⟩,rfl⟩
 rw [htotE]
 clear htotE
 have hc9:=hc
 obtain ⟨n,hn⟩:∃ n,fls.length = n:=⟨_,rfl⟩
 obtain ⟨T,hT⟩:∃ T,t.length = T:=⟨_,rfl⟩
 rw [hn] at hB0 hB1 hc9
 rw [hT] at hB2
 obtain ⟨qf,df,hpf⟩:∃ qf df,pf.getD c (none,0) = (qf,df):=⟨_,_,rfl⟩
 obtain ⟨qr,dr,hpr⟩:∃ qr dr,pr.getD c (none,0) = (qr,dr):=⟨_,_,rfl⟩
 obtain ⟨qs,hqs⟩:∃ qs,qss.getD c [] = qs:=⟨_,rfl⟩
 rw [hpf] at hFc hfe
 rw [hpr] at hRc hrx
 rw [hqs] at hrx
 dsimp only at hFc hRc hrx hfe
 obtain ⟨fl,hfl'⟩:∃ fl,fls.getD c [] = fl:=⟨_,rfl⟩
 obtain ⟨rows,hrows⟩:∃ rows,Rs.getD c [] = rows:=⟨_,rfl⟩
 rw [hfl'] at hFc hfe hfl hlen hstp htotS ⊢
 rw [hrows] at hRc hrx hlen hstp htotS
 rw [hfl',hrows] at hP
 obtain ⟨aV,rfl⟩:=hfe.some_of (k:=0) (by rw [List.length_map]; omega)
 obtain ⟨aR,rfl⟩:=hrx.rws.some_of (k:=0) (by rw [rsV_size]; omega)
 have htm:=Lib.hid (fun wx (hm:Mod (fun _=>False) w wx) (i:Nat) (hi:i < rows.length)=>(show Calls Tryz.prog 92 #[.agg (veR (fl.getD i ve0)).toArray,.slice (qs.getD i (none,0)).1 (rows.getD i []).length (qs.getD i (none,0)).2,.slice qT t.length cT] wx (TmPost wx (timV (fl.getD i ve0) (rows.getD i []) t)) from
  times7_ref _ _ _ _ _ _ _ _ _ (rows.getD i []) t wx (els_modP (hrx.row i hi) hm (fun _ _ _ h=>h)) (hrx.cap i hi) (els_modP hreq hm (fun _ _ _ h=>h))))
 have hlv:=Lib.hid (fun wx (hm:Mod (fun _=>False) w wx) (i:Nat) (hi:i < fl.length)=>(show (loadVar 59 (aV.add (i * 5))).run Tryz.prog wx = .ok (.agg (veR (fl.getD i ve0)).toArray) wx from by
  have:=(els_modP hfe hm (fun _ _ _ h=>h)).load (P:=Tryz.prog) (a:=aV) rfl (k:=i) (by simpa using hi) (ty:=59) Tryz.underlying59 rfl (by kernel_rfl)
  rw [List.getElem_map] at this
  rw [List.getD_eq_getElem?_getD,List.getElem?_eq_getElem hi]
  exact this))
 have hv3:=Lib.hid (fun wx (hm:Mod (fun _=>False) w wx) (i:Nat) (hi:i < fl.length)=>(show wx.cell? (aV.add (i * 5 + 3)) = some (.int .i64 (fl.getD i ve0 3)) from (els_modP hfe hm (fun _ _ _ h=>h)).cells aV rfl i (veR (fl.getD i ve0)) 3 _ (by rw [List.getElem?_map,List.getElem?_eq_getElem hi,List.getD_eq_getElem?_getD,List.getElem?_eq_getElem hi]; rfl) rfl))
 have hcr:=Lib.hid (fun wx (hm:Mod (fun _=>False) w wx) (i:Nat) (hi:i < rows.length)=>run_row14 (rs_cell hrx.rws hm hi))
 replace htotS:=Lib.hid htotS
 replace htot0:=Lib.hid htot0
 obtain ⟨m,hm⟩:∃ m,fl.length = m:=⟨_,rfl⟩
 rw [hm] at hfl hlen hstp hlv hv3 hFc ⊢
 rw [hlen] at hcr hRc htm
 rw [hT] at htm
 clear h hn hT hlen hP hpf hpr hqs hfl' hrows hfe hrx hreq hfc hc hm
 go_enter Tryz.func69,Tryz.ntmps69
 go_wp2_with fail
 go_loopw [5,6] (fun s5 s6 wx=>∃ k:Nat,k≤m∧s6 = .int .i64 k∧s5 = .int .i64 (tot k)∧Mod (fun _=>False) w wx) (fun _ s6 _=>m - (intOf s6).toNat)
 case atStart=>exact ⟨0,Nat.zero_le _,rfl,by rw [htot0.out],Mod.refl _ _⟩
 case round=>
  obtain ⟨i,hi,rfl,rfl,hm⟩:=hrel
  have hB0w:=Lib.hid (hB0.out wr hm)
  have hFcw:=Lib.hid (hFc.out wr hm)
  by_cases hlt:i < m
  ·have hltI:(i:Int) < (m:Int):=by omega
   have hi0:(0:Int)≤(i:Int):=by omega
   have s1:IntKind.i64.wrap ((i:Int) + 1) = (i:Int) + 1:=IntWalk.i64_in _ (by omega)
   replace hB0:=Lib.hid (fun wx (h:Mod (fun _=>False) wr wx)=>hB0.out wx (hm.trans h))
   replace hB1:=Lib.hid (fun wx (h:Mod (fun _=>False) wr wx)=>hB1.out wx (hm.trans h))
   replace hB2:=Lib.hid (fun wx (h:Mod (fun _=>False) wr wx)=>hB2.out wx (hm.trans h))
   replace hFc:=Lib.hid (fun wx (h:Mod (fun _=>False) wr wx)=>hFc.out wx (hm.trans h))
   replace hRc:=Lib.hid (fun wx (h:Mod (fun _=>False) wr wx)=>hRc.out wx (hm.trans h))
   have hTi:=Lib.hid (fun wx (h:Mod (fun _=>False) wr wx)=>htm.out wx (hm.trans h) i hlt)
   have hVi:=Lib.hid (fun wx (h:Mod (fun _=>False) wr wx)=>hlv.out wx (hm.trans h) i hlt)
   have hRi:=Lib.hid (fun wx (h:Mod (fun _=>False) wr wx)=>hcr.out wx (hm.trans h) i hlt)
   have h3i:=Lib.hid (fun wx (h:Mod (fun _=>False) wr wx)=>hv3.out wx (hm.trans h) i hlt)
   obtain ⟨⟨p1,p2,p3,p4⟩,p5⟩:=hstp.out i hlt
   obtain ⟨f1,f2⟩:=htotS.out i
   rw [← f2] at p5
   unfold totV at p1 p2 f1
   obtain ⟨Lt,en,e0,hBe⟩:∃ L en e0,timV (fl.getD i ve0) (rows.getD i []) t = (L,en,e0):=⟨_,_,_,rfl⟩
   rw [hBe] at hTi p1 p2 p4 f1
   dsimp only at p1 p2 p4 f1
   unfold TmPost at hTi
   dsimp only at hTi
   obtain rfl:e0 = 0:=p4
   generalize (veR (fl.getD i ve0)).toArray = Y at hVi hTi
   generalize fl.getD i ve0 3 = v3 at *
   generalize (qs.getD i (none,0)).1 = qi at *
   generalize (qs.getD i (none,0)).2 = di at *
   generalize (rows.getD i []).length = ln at *
   have s2:IntKind.i64.wrap (tot i + en) = tot i + en:=IntWalk.i64_in _ (by omega)
   have s3:IntKind.i64.wrap (tot i + en - v3) = tot i + en - v3:=IntWalk.i64_in _ (by omega)
   have F1:=Lib.hid (show tot (i + 1) = tot i + en - v3 by omega)
   replace hm:=Lib.hid hm
   clear hBe f1 f2 p1 p2
   go_upto_region 5 with (first | (refine wpList_load_v rfl 36 _ rfl ⟨d,0,none⟩ rfl _ hB0w.out ?_) | (refine wpList_v rfl (.pointer (some (aG.add c))) (run_ixF28 (k:=c) rfl rfl rfl hc9) ?_) | (refine wpList_load_v rfl 60 _ rfl (aG.add c) rfl _ hFcw.out ?_))
   refine wp_region_rove (X:=Option Addr × Nat) (none,0) (fun x=>[(23,.pointer (some ⟨d,0,none⟩)),(24,.pointer (some ⟨d,0,none⟩)),(25,.pointer (some ⟨d,0,none⟩)),(26,.slice (some aG) n cF),(27,.int .i64 (c:Int)),(28,.pointer (some (aG.add c))),(29,.slice (some aV) m df),(30,.int .i64 (i:Int)),(31,.pointer (some (aV.add (i * 5)))),(32,.agg Y),(33,.pointer (some ⟨d,0,none⟩)),(34,.pointer (some ⟨d,0,none⟩)),(35,.pointer (some ⟨d,1,none⟩)),(36,.slice (some ⟨gR,0,none⟩) n cR),(37,.int .i64 (c:Int)),(38,.pointer (some ((⟨gR,0,none⟩:Addr).add c))),(39,.slice (some aR) m dr),(40,.int .i64 (i:Int)),(41,.pointer (some (aR.add i))),(42,.slice qi ln di),(43,.pointer (some ⟨d,0,none⟩)),(44,.pointer (some ⟨d,0,none⟩)),(45,.pointer (some ⟨d,2,none⟩)),(46,.slice qT T cT),(49,.int .i64 en),(50,.int .i64 0),(8,.int .i64 en),(9,.int .i64 0)] ++ [(47,.tuple #[.slice x.1 Lt.length x.2,.int .i64 en,.int .i64 0]),(22,.tuple #[.slice x.1 Lt.length x.2,.int .i64 en,.int .i64 0]),(48,.slice x.1 Lt.length x.2),(7,.slice x.1 Lt.length x.2)])
    (fun x d W'=>Mod (fun _=>False) wr W') (by kernel_rfl) (by kernel_rfl) (by kernel_rfl) (by kernel_rfl) (fun x=>by kernel_rfl)
    (Mod.refl _ _).drew ?_ ?_
   ·intro aF hAF
    have E0:∀ x,(aF x).eval (.tmp 0) = .pointer (some ⟨d,0,none⟩):=by intro x; rw [hAF]; kernel_rfl
    have E1:∀ x,(aF x).eval (.tmp 1) = .int .i64 (c:Int):=by intro x; rw [hAF]; kernel_rfl
    have E6:∀ x,(aF x).eval (.tmp 6) = .int .i64 (i:Int):=by intro x; rw [hAF]; kernel_rfl
    have T23:∀ x,(aF x).tmps[23]? = some (.pointer (some ⟨d,0,none⟩)):=by intro x; rw [hAF]; kernel_rfl
    have T24:∀ x,(aF x).tmps[24]? = some (.pointer (some ⟨d,0,none⟩)):=by intro x; rw [hAF]; kernel_rfl
    have T25:∀ x,(aF x).tmps[25]? = some (.pointer (some ⟨d,0,none⟩)):=by intro x; rw [hAF]; kernel_rfl
    have T26:∀ x,(aF x).tmps[26]? = some (.slice (some aG) n cF):=by intro x; rw [hAF]; kernel_rfl
    have T27:∀ x,(aF x).tmps[27]? = some (.int .i64 (c:Int)):=by intro x; rw [hAF]; kernel_rfl
    have T28:∀ x,(aF x).tmps[28]? = some (.pointer (some (aG.add c))):=by intro x; rw [hAF]; kernel_rfl
    have T29:∀ x,(aF x).tmps[29]? = some (.slice (some aV) m df):=by intro x; rw [hAF]; kernel_rfl
    have T30:∀ x,(aF x).tmps[30]? = some (.int .i64 (i:Int)):=by intro x; rw [hAF]; kernel_rfl
    have T31:∀ x,(aF x).tmps[31]? = some (.pointer (some (aV.add (i * 5)))):=by intro x; rw [hAF]; kernel_rfl
    have T32:∀ x,(aF x).tmps[32]? = some (.agg Y):=by intro x; rw [hAF]; kernel_rfl
    have T33:∀ x,(aF x).tmps[33]? = some (.pointer (some ⟨d,0,none⟩)):=by intro x; rw [hAF]; kernel_rfl
    have T34:∀ x,(aF x).tmps[34]? = some (.pointer (some ⟨d,0,none⟩)):=by intro x; rw [hAF]; kernel_rfl
    have T35:∀ x,(aF x).tmps[35]? = some (.pointer (some ⟨d,1,none⟩)):=by intro x; rw [hAF]; kernel_rfl
    have T36:∀ x,(aF x).tmps[36]? = some (.slice (some ⟨gR,0,none⟩) n cR):=by intro x; rw [hAF]; kernel_rfl
    have T37:∀ x,(aF x).tmps[37]? = some (.int .i64 (c:Int)):=by intro x; rw [hAF]; kernel_rfl
    have T38:∀ x,(aF x).tmps[38]? = some (.pointer (some ((⟨gR,0,none⟩:Addr).add c))):=by intro x; rw [hAF]; kernel_rfl
    have T39:∀ x,(aF x).tmps[39]? = some (.slice (some aR) m dr):=by intro x; rw [hAF]; kernel_rfl
    have T40:∀ x,(aF x).tmps[40]? = some (.int .i64 (i:Int)):=by intro x; rw [hAF]; kernel_rfl
    have T41:∀ x,(aF x).tmps[41]? = some (.pointer (some (aR.add i))):=by intro x; rw [hAF]; kernel_rfl
    have T42:∀ x,(aF x).tmps[42]? = some (.slice qi ln di):=by intro x; rw [hAF]; kernel_rfl
    have T43:∀ x,(aF x).tmps[43]? = some (.pointer (some ⟨d,0,none⟩)):=by intro x; rw [hAF]; kernel_rfl
    have T44:∀ x,(aF x).tmps[44]? = some (.pointer (some ⟨d,0,none⟩)):=by intro x; rw [hAF]; kernel_rfl
    have T45:∀ x,(aF x).tmps[45]? = some (.pointer (some ⟨d,2,none⟩)):=by intro x; rw [hAF]; kernel_rfl
    have T46:∀ x,(aF x).tmps[46]? = some (.slice qT T cT):=by intro x; rw [hAF]; kernel_rfl
    have T49:∀ x,(aF x).tmps[49]? = some (.int .i64 en):=by intro x; rw [hAF]; kernel_rfl
    have T50:∀ x,(aF x).tmps[50]? = some (.int .i64 0):=by intro x; rw [hAF]; kernel_rfl
    have T8:∀ x,(aF x).tmps[8]? = some (.int .i64 en):=by intro x; rw [hAF]; kernel_rfl
    have T9:∀ x,(aF x).tmps[9]? = some (.int .i64 0):=by intro x; rw [hAF]; kernel_rfl
    have T47:∀ x,(aF x).tmps[47]? = some (.tuple #[.slice x.1 Lt.length x.2,.int .i64 en,.int .i64 0]):=by intro x; rw [hAF]; kernel_rfl
    have T22:∀ x,(aF x).tmps[22]? = some (.tuple #[.slice x.1 Lt.length x.2,.int .i64 en,.int .i64 0]):=by intro x; rw [hAF]; kernel_rfl
    have T48:∀ x,(aF x).tmps[48]? = some (.slice x.1 Lt.length x.2):=by intro x; rw [hAF]; kernel_rfl
    have T7:∀ x,(aF x).tmps[7]? = some (.slice x.1 Lt.length x.2):=by intro x; rw [hAF]; kernel_rfl
    replace hAF:=Lib.hid hAF
    refine ⟨?_,?_,?_,?_,?_,?_,?_,?_,?_,?_,?_,?_,?_,?_,?_,?_,?_,?_,?_,?_,?_,?_,?_,?_,?_,?_,?_,?_,?_,?_,?_,?_,trivial⟩
    ·exact oq T23 rfl rfl fun x d w' hd hc=>sv (run_mov rfl (E0 x)) hc
    ·exact oq T24 rfl rfl fun x d w' hd hc=>sv (run_nilP rfl (ev T23 x)) hc
    ·exact oq T25 rfl rfl fun x d w' hd hc=>sv (run_fldT rfl (ev T24 x) (fun _=>by kernel_rfl)) hc
    ·exact oq T26 rfl rfl fun x d w' hd hc=>sv (run_load1 rfl (ev T25 x) (hB0.out _ hc)) hc
    ·exact oq T27 rfl rfl fun x d w' hd hc=>sv (run_mov rfl (E1 x)) hc
    ·exact oq T28 rfl rfl fun x d w' hd hc=>sv (run_ixF28 rfl (ev T26 x) (ev T27 x) hc9) hc
    ·exact oq T29 rfl rfl fun x d w' hd hc=>sv (run_load1 rfl (ev T28 x) (hFc.out _ hc)) hc
    ·exact oq T30 rfl rfl fun x d w' hd hc=>sv (run_mov rfl (E6 x)) hc
    ·exact oq T31 rfl rfl fun x d w' hd hc=>sv (run_ixVe14 rfl (ev T29 x) (ev T30 x) hlt) hc
    ·exact oq T32 rfl rfl fun x d w' hd hc=>sv (run_load1 rfl (ev T31 x) (hVi.out _ hc)) hc
    ·exact oq T33 rfl rfl fun x d w' hd hc=>sv (run_mov rfl (E0 x)) hc
    ·exact oq T34 rfl rfl fun x d w' hd hc=>sv (run_nilP rfl (ev T33 x)) hc
    ·exact oq T35 rfl rfl fun x d w' hd hc=>sv (run_fldT rfl (ev T34 x) (fun _=>by kernel_rfl)) hc
    ·exact oq T36 rfl rfl fun x d w' hd hc=>sv (run_load1 rfl (ev T35 x) (hB1.out _ hc)) hc
    ·exact oq T37 rfl rfl fun x d w' hd hc=>sv (run_mov rfl (E1 x)) hc
    ·exact oq T38 rfl rfl fun x d w' hd hc=>sv (run_ixR28 rfl (ev T36 x) (ev T37 x) hc9) hc
    ·exact oq T39 rfl rfl fun x d w' hd hc=>sv (run_load1 rfl (ev T38 x) (hRc.out _ hc)) hc
    ·exact oq T40 rfl rfl fun x d w' hd hc=>sv (run_mov rfl (E6 x)) hc
    ·exact oq T41 rfl rfl fun x d w' hd hc=>sv (run_ixRs rfl (ev T39 x) (ev T40 x) hlt) hc
    ·exact oq T42 rfl rfl fun x d w' hd hc=>sv (run_load1 rfl (ev T41 x) (hRi.out _ hc)) hc
    ·exact oq T43 rfl rfl fun x d w' hd hc=>sv (run_mov rfl (E0 x)) hc
    ·exact oq T44 rfl rfl fun x d w' hd hc=>sv (run_nilP rfl (ev T43 x)) hc
    ·exact oq T45 rfl rfl fun x d w' hd hc=>sv (run_fldT rfl (ev T44 x) (fun _=>by kernel_rfl)) hc
    ·exact oq T46 rfl rfl fun x d w' hd hc=>sv (run_load1 rfl (ev T45 x) (hB2.out _ hc)) hc
    ·exact opOk3_loud rfl fun x d w' hd hn hc=>by
       refine sk (run_call14 rfl (ev T32 x) (ev T42 x) (ev T46 x) (by kernel_rfl)) ((hTi.out w' hc).mono ?_)
       rintro e w'' ⟨q,dd,rfl,hb,-⟩
       exact ⟨_,rfl,(q,dd),(by rw [hAF.out]; exact agree_any (by kernel_rfl) (by kernel_rfl)),(by intro t hd _; cases hd; exact T47 _),hc.after hb⟩
    ·exact oq T22 rfl rfl fun x d w' hd hc=>sv (run_mov rfl (ev T47 x)) hc
    ·exact oq T48 rfl rfl fun x d w' hd hc=>sv (run_ext rfl (ev T22 x) rfl) hc
    ·exact oq T49 rfl rfl fun x d w' hd hc=>sv (run_ext rfl (ev T22 x) rfl) hc
    ·exact oq T50 rfl rfl fun x d w' hd hc=>sv (run_ext rfl (ev T22 x) rfl) hc
    ·exact oq T7 rfl rfl fun x d w' hd hc=>sv (run_asg rfl (ev T48 x)) hc
    ·exact oq T8 rfl rfl fun x d w' hd hc=>sv (run_asg rfl (ev T49 x)) hc
    ·exact oq T9 rfl rfl fun x d w' hd hc=>sv (run_asg rfl (ev T50 x)) hc
   ·intro x dn w' hd hc
    simp only [putAll,List.foldl_cons,List.foldl_nil,List.cons_append,List.nil_append,Act.put,List.setIfInBounds_toArray,List.set_cons_succ,List.set_cons_zero]
    obtain ⟨q,dq⟩:=x
    have hm2:=Lib.hid (hm.out.trans hc)
    have c3:=h3i.out w' hc
    rw [← addr_add_add,addr_3T] at c3
    have hB0v:=Lib.hid (hB0.out w' hc)
    have hFcv:=Lib.hid (hFc.out w' hc)
    clear hc hd hB0 hB1 hB2 hTi hVi hRi h3i hFc hRc hB0w hFcw
    go_wp2_with (first | (refine wpList_load_v rfl 36 _ rfl ⟨d,0,none⟩ rfl _ hB0v.out ?_) | (refine wpList_v rfl (.pointer (some (aG.add c))) (run_ixF28 (k:=c) rfl rfl rfl hc9) ?_) | (refine wpList_load_v rfl 60 _ rfl (aG.add c) rfl _ hFcv.out ?_) | (refine wpList_v rfl (.pointer (some (aV.add (i * 5)))) (run_ixVe14 (k:=i) rfl rfl rfl hlt) ?_))
    go_roundw
    case rel=>exact ⟨i + 1,by omega,by simp,by rw [F1.out],hm2.out⟩
    case measure=>simp [intOf]; omega
  ·obtain rfl:m = i:=by omega
   replace hm:=Lib.hid hm
   go_wp2_with (first | (refine wpList_load_v rfl 36 _ rfl ⟨d,0,none⟩ rfl _ hB0w.out ?_) | (refine wpList_v rfl (.pointer (some (aG.add c))) (run_ixF28 (k:=c) rfl rfl rfl hc9) ?_) | (refine wpList_load_v rfl 60 _ rfl (aG.add c) rfl _ hFcw.out ?_))
   go_ret
   exact ⟨rfl,hm.out.below (Nat.le_refl _) (fun _ h=>h.elim)⟩
def rtK (fls:List (List Ve)) (Rs:List (List Rou2)) (t:List Rq):Nat→Int
 | 0=>0
 | k + 1=>rtK fls Rs t k + totP (fls.getD k []) (Rs.getD k []) t
theorem rtK_bd {fls:List (List Ve)} {Rs:List (List Rou2)} {t:List Rq} (hP:∀ c,c < fls.length→PlnOk (fls.getD c []) (Rs.getD c []) t):∀ k,k≤fls.length→0≤rtK fls Rs t k∧rtK fls Rs t k≤4194304 * (k:Int)
 | 0,_=>by simp [rtK]
 | k + 1,h=>by
  have h1:=rtK_bd hP k (by omega)
  have h2:=hP k (by omega)
  have h3:=totK_bd h2 (fls.getD k []).length (Nat.le_refl _)
  have h4:=h2.many
  unfold rtK totP
  omega
theorem rtotal28_calls {w:World} {F:Nat→Prop} {d gR:Nat} {fls:List (List Ve)} {Rs:List (List Rou2)} {t:List Rq} {qF qT:Option Addr} {cF cR cT:Nat} {pf pr:List (Option Addr × Nat)} {qss:List (List (Option Addr × Nat))} {vH:Value}
  (h:RdIn w F d gR fls Rs t qF cF pf cR pr qss qT cT vH) (hn8:fls.length≤8) (hP:∀ c,c < fls.length→PlnOk (fls.getD c []) (Rs.getD c []) t):
  Calls Tryz.prog 46 #[.pointer (some ⟨d,0,none⟩)] w fun e w'=>e = .returned (.int .i64 (rtK fls Rs t fls.length))∧Below w.heap.size w w':=by
 have hB0:=Lib.hid (fun wx (hb:Below w.heap.size w wx)=>run_cF28 (((h.below hb).box).cell (i:=0) rfl))
 have hbd:=Lib.hid (fun k (hk:k≤fls.length)=>rtK_bd hP k hk)
 have htt:=Lib.hid (fun i (hi:i < fls.length) wx (hb:Below w.heap.size w wx)=>rof28_calls (h.below hb) hi (hP i hi))
 obtain ⟨tot,ht0,htS⟩:∃ tot:Nat→Int,tot 0 = 0∧(∀ k,tot (k + 1) = tot k + totP (fls.getD k []) (Rs.getD k []) t∧tot k = rtK fls Rs t k):=⟨rtK fls Rs t,rfl,fun _=>⟨rfl,rfl⟩⟩
 rw [← (htS fls.length).2]
 obtain ⟨n,hn⟩:∃ n,fls.length = n:=⟨_,rfl⟩
 rw [hn] at hB0 hn8 hbd htt ⊢
 replace htS:=Lib.hid htS
 replace ht0:=Lib.hid ht0
 clear h hP hn
 go_enter Tryz.func46,Tryz.ntmps46
 go_wp2_with fail
 go_loopw [3,4] (fun s3 s4 wx=>∃ k:Nat,k≤n∧s4 = .int .i64 k∧s3 = .int .i64 (tot k)∧Below w.heap.size w wx) (fun _ s4 _=>n - (intOf s4).toNat)
 case atStart=>exact ⟨0,Nat.zero_le _,rfl,by rw [ht0.out],Below.refl _ _⟩
 case round=>
  obtain ⟨i,hi,rfl,rfl,hb⟩:=hrel
  have hB0w:=Lib.hid (hB0.out wr hb)
  by_cases hlt:i < n
  ·have hltI:(i:Int) < (n:Int):=by omega
   have s1:IntKind.i64.wrap ((i:Int) + 1) = (i:Int) + 1:=IntWalk.i64_in _ (by omega)
   have htc:=Lib.hid (htt.out i hlt wr hb)
   obtain ⟨f1,f2⟩:=htS.out i
   have g1:=hbd.out i (by omega)
   have g2:=hbd.out (i + 1) (by omega)
   rw [← f2] at g1
   rw [← (htS.out (i + 1)).2,f1] at g2
   generalize totP (fls.getD i []) (Rs.getD i []) t = u at *
   have s2:IntKind.i64.wrap (tot i + u) = tot i + u:=IntWalk.i64_in _ (by omega)
   have F1:=Lib.hid f1
   replace hb:=Lib.hid hb
   clear f1 f2 g1 g2
   go_wp2_with (refine wpList_load_v rfl 36 _ rfl ⟨d,0,none⟩ rfl _ hB0w.out ?_)
   refine htc.out.mono ?_
   rintro e w2 ⟨rfl,hb2⟩
   replace hb:=Lib.hid (hb.out.trans (hb2.mono hb.out.size))
   clear hb2 hB0w htc
   go_wp2_with fail
   go_roundw
   case rel=>exact ⟨i + 1,by omega,by simp,by rw [F1.out],hb.out⟩
   case measure=>simp [intOf]; omega
  ·obtain rfl:n = i:=by omega
   replace hb:=Lib.hid hb
   go_wp2_with (refine wpList_load_v rfl 36 _ rfl ⟨d,0,none⟩ rfl _ hB0w.out ?_)
   go_ret
   exact ⟨rfl,hb.out⟩
end
section
section
open Go.RowKit
section
variable {B:Nat} {w:World} {t:List Rq}
theorem two_put {p q:Pc} (h:PcsAt B w t [p,q]) (hB:B≤w.heap.size) (hN:p.N < 1000) {req z1 z2:Int} {R:List Rou2} (hr:pputP p.fl p.rows t req = (R,z1,z2)) (hq:wf64 req):
  Calls Tryz.prog 11 #[.pointer (some ⟨p.b,0,none⟩),.int .i64 req] w fun e w'=>e = .returned (.tuple #[.int .i64 z1,.int .i64 z2])∧∃ p':Pc,(p'.b = p.b∧p'.fl = p.fl∧p'.N = p.N + 1∧p'.rows = R)∧PcsAt B w' t [p',q]∧Below B w w':=by
 have h0:=(h.get (i:=0) (by simp))
 have h1:=h.put hB (i:=0) (by simp) (by show p.N < 1000000; omega) req hq
 refine h1.mono ?_
 rintro e w' ⟨e1,m1,F',_,h2⟩
 have e1':e = .returned (.tuple #[.int .i64 (pputP p.fl p.rows t req).2.1,.int .i64 (pputP p.fl p.rows t req).2.2]):=e1
 rw [hr] at e1'
 refine ⟨e1',{ p with N:=p.N + 1,rows:=R,F:=F' },⟨rfl,rfl,rfl,rfl⟩,?_,m1.below hB (fun k hk=>?_)⟩
 ·have h3:PcsAt B w' t [{ p with N:=p.N + 1,rows:=(pputP p.fl p.rows t req).1,F:=F' },q]:=h2
  rwa [hr] at h3
 ·rcases hk with rfl | rfl
  ·exact h0.2.2 _ h0.own.2.1
  ·exact h0.2.2 _ h0.own.2.2.1
theorem new_more {L:List Pc} {w0:World} {fl:List Ve} {b gT gM:Nat} {F:Nat→Prop} (h:PcsAt B w0 t L) (hb:Below w0.heap.size w0 w) (hB:B≤w0.heap.size) (hF:∀ k,F k→w0.heap.size≤k) (hPl:PlanAt w F b gT gM 0 fl (rows0 fl) t) (hc:newC fl t = 0):
  PcsAt B w t (L ++ [⟨b,gT,gM,0,fl,rows0 fl,F⟩]):=
 h.more hb ⟨hPl,ok0 hc,fun k hk=>Nat.le_trans hB (hF k hk)⟩ hF
end
theorem works28_calls (w:World):Calls Tryz.prog 9 #[] w fun e w'=>e = .returned (.bool true)∧Below w.heap.size w w':=by
 go_enter Tryz.func9,Tryz.ntmps9
 go_upto_region 3 with fail
 refine wp_world' (fun wx=>Els wx (some ⟨w.heap.size + 1,0,none⟩) 10 (wkT.map rqV)∧Below w.heap.size w wx) ⟨els_litP (blk_newAtC (by simp) (wkT.map rqV).flatten.toArray 55) (rqV_len _) (by decide),(new_below _ _).alloc (by simp) _⟩ ?_
 rintro w1 ⟨hT,hb1⟩
 have hF1:=els_litP (Blk.new w1 (wkF.map veR).flatten.toArray 59) (veR_lenP _) (by decide)
 have hlow1:=new_below w1 (.cells (wkF.map veR).flatten.toArray 59)
 have hba:=hb1.trans (hlow1.mono hb1.size)
 have hn1:=Lib.hid (pnew_calls (some ⟨w1.heap.size,0,none⟩) (some ⟨w.heap.size + 1,0,none⟩) 1 1 wkF wkT _ hF1 (by decide) (hT.below hlow1) (by decide))
 unfold NwPost at hn1
 have hL0:=Lib.hid (PcsAt.nil (B:=w.heap.size) (w:=w1.alloc (.cells (wkF.map veR).flatten.toArray 59)) (t:=wkT) (by decide))
 replace hT:=Lib.hid (hT.below hlow1)
 replace hba:=Lib.hid hba
 clear hF1 hlow1 hb1
 go_wp2_with fail
 refine hn1.out.mono ?_
 clear hn1
 rintro e w2 ⟨hb2,hor⟩
 rcases hor with ⟨h,_⟩ | ⟨_,b1,gT1,gM1,F1,rfl,hF1,hPl1⟩
 ·exact absurd wk_new h
 have hL1:=new_more hL0.out hb2 hba.out.size hF1 hPl1 wk_new
 have hT2:=hT.out.below hb2
 have hbb:=hba.out.trans (hb2.mono hba.out.size)
 have hF2:=els_litP (Blk.new w2 (wkG.map veR).flatten.toArray 59) (veR_lenP _) (by decide)
 have hlow2:=new_below w2 (.cells (wkG.map veR).flatten.toArray 59)
 have hn2:=Lib.hid (pnew_calls (some ⟨w2.heap.size,0,none⟩) (some ⟨w.heap.size + 1,0,none⟩) 1 1 wkG wkT _ hF2 (by decide) (hT2.below hlow2) (by decide))
 unfold NwPost at hn2
 have hL1':=Lib.hid (hL1.below hlow2)
 have hbc:=Lib.hid (hbb.trans (hlow2.mono hbb.size))
 clear hF2 hlow2 hT2 hT hL1 hL0 hba hbb hPl1 hF1 hb2
 go_wp2_with fail
 refine hn2.out.mono ?_
 clear hn2
 rintro e w3 ⟨hb3,hor⟩
 rcases hor with ⟨h,_⟩ | ⟨_,b2,gT2,gM2,F2,rfl,hF2,hPl2⟩
 ·exact absurd wk_newG h
 have hL2:=new_more hL1'.out hb3 hbc.out.size hF2 hPl2 wk_newG
 have hb3':=Lib.hid (hbc.out.trans (hb3.mono hbc.out.size))
 obtain ⟨p1,ep1⟩:∃ p:Pc,p = ⟨b1,gT1,gM1,0,wkF,rows0 wkF,F1⟩:=⟨_,rfl⟩
 obtain ⟨q1,eq1⟩:∃ p:Pc,p = ⟨b2,gT2,gM2,0,wkG,rows0 wkG,F2⟩:=⟨_,rfl⟩
 have hL3:PcsAt w.heap.size w3 wkT [p1,q1]:=by
  rw [ep1,eq1]
  exact hL2
 obtain ⟨r1,r2,r3,r4⟩:p1.b = b1∧p1.fl = wkF∧p1.rows = rows0 wkF∧p1.N = 0:=by rw [ep1]; exact ⟨rfl,rfl,rfl,rfl⟩
 obtain ⟨s1,s2,s3,s4⟩:q1.b = b2∧q1.fl = wkG∧q1.rows = rows0 wkG∧q1.N = 0:=by rw [eq1]; exact ⟨rfl,rfl,rfl,rfl⟩
 clear ep1 eq1 hL2 hL1' hF2 hPl2 hb3 hbc
 subst s1
 have hpu:=Lib.hid (by
  have:=two_put hL3 hb3'.out.size (by omega) (req:=0) (R:=[prL 0]) (z1:=40) (z2:=0) (by rw [r2,r3]; exact wk_put) (wf_lit (by omega))
  rw [r1,r2,r4] at this
  exact this)
 clear hL3 r1 r2 r3 r4
 go_wp2_with fail
 refine hpu.out.mono ?_
 clear hpu
 rintro e w4 ⟨rfl,p2,⟨u1,u2,u3,u4⟩,hL4,hb4⟩
 subst u1
 have hb4':=Lib.hid (hb3'.out.trans hb4)
 have hne:=hL4.ne (i:=0) (j:=1) (by simp) (by simp) (by omega)
 change p2.b ≠ q1.b at hne
 have hdl:dlC [some p2,some q1] wkT [0] = 0:=by
  rw [dlC_two hne (by decide),u4,s3]
  exact wk_hold
 have hQl:=els_litP (n:=1) (R:=[some p2,some q1].map ptrO) (blk_newAtC (w:=w4) rfl ([some p2,some q1].map ptrO).flatten.toArray 42) (ptrO_len _) (by simp)
 have hw5:=new_below w4 (.cells ([some p2,some q1].map ptrO).flatten.toArray 42)
 have hHl:=els_litP (n:=1) (R:=([0]:List Int).map inV) (blk_newAtC (w:=w4.alloc (.cells ([some p2,some q1].map ptrO).flatten.toArray 42)) (g:=w4.heap.size + 1) (by simp) (([0]:List Int).map inV).flatten.toArray 3) (inV_lenD _) (by decide)
 have hw6:=new_below (w4.alloc (.cells ([some p2,some q1].map ptrO).flatten.toArray 42)) (.cells (([0]:List Int).map inV).flatten.toArray 3)
 have hw46:=hw5.trans (hw6.mono (by simp))
 have hL6:=hL4.below hw46
 have hn3:=Lib.hid (dnew_calls [some p2,some q1] [0] (some ⟨w4.heap.size,0,none⟩) (some ⟨w4.heap.size + 1,0,none⟩) 2 1 _ (hQl.below hw6) hHl (by simp) (by decide) (fun p hp=>by
  simp only [List.mem_cons,Option.some.injEq,List.not_mem_nil,or_false] at hp
  exact hL6.at_ p (by simp only [List.mem_cons,List.not_mem_nil,or_false]; exact hp)) (by decide) (fun p hp=>by
  simp only [List.mem_cons,Option.some.injEq,List.not_mem_nil,or_false] at hp
  rcases hp with rfl | rfl <;> omega))
 have hL6':=Lib.hid hL6
 have hb6:=Lib.hid (hb4'.out.trans (hw46.mono hb4'.out.size))
 clear hL4 hb4 hb3' hb4' hQl hHl hw5 hw6 hw46 hL6
 go_wp2_with fail
 refine hn3.out.mono ?_
 clear hn3
 rintro e w7 ⟨hb7,hor⟩
 rcases hor with ⟨h,_⟩ | ⟨_,d,gP,cP,qH,cH,rfl,hD,_,_,hqH⟩
 ·exact absurd hdl h
 have hqW:=Lib.hid (fun a (ha:qH = some a)=>Nat.le_trans hb6.out.size (hqH a ha (by simp)))
 clear hqH
 have hL7:=Lib.hid (hL6'.out.below hb7)
 have hb7':=Lib.hid (hb6.out.trans (hb7.mono hb6.out.size))
 have hD7:=Lib.hid (show DlIn w7 d [p2,q1] [0] gP cP qH cH from hD)
 have hh0:=Lib.hid (show Calls Tryz.prog 17 #[.pointer (some ⟨d,0,none⟩),.int .i64 0] w7 fun e w'=>e = .returned (.int .i64 0)∧w7 = w' from dholder_calls hD7.out 0)
 have htt:=Lib.hid (by
  have:=dtotal_calls hD7.out hL7.out
  have e:dtK [p2,q1] wkT 2 = 40:=by
   show 0 + totP p2.fl p2.rows wkT + totP q1.fl q1.rows wkT = 40
   rw [u2,u4,s2,s3,Int.zero_add]
   exact wk_tot
  rw [show ([p2,q1]:List Pc).length = 2 from rfl,e] at this
  exact this)
 clear hD hb7 hL6' hb6 hdl
 go_wp2_with fail
 refine hh0.out.mono ?_
 clear hh0
 rintro e w8 ⟨rfl,rfl⟩
 go_wp2_with fail
 refine htt.out.mono ?_
 clear htt
 rintro e w8 ⟨rfl,hb8⟩
 have hL8:=Lib.hid (hL7.out.below hb8)
 have hD8:=Lib.hid (hD7.out.below hb8)
 have hb8':=Lib.hid (hb7'.out.trans (hb8.mono hb7'.out.size))
 have hs1:=Lib.hid (show Calls Tryz.prog 16 #[.pointer (some ⟨d,0,none⟩),.int .i64 0,.int .i64 0] w8 fun e w'=>e = .returned (.tuple #[.int .i64 0,.int .i64 18])∧Below w8.heap.size w8 w' from dsell_18 (r:=0) 0 (by decide) (by simp) rfl hD8.out)
 clear hL7 hD7 hb7' hb8
 go_wp2_with fail
 refine hs1.out.mono ?_
 clear hs1
 rintro e w9 ⟨rfl,hb9⟩
 have hL9:=Lib.hid (hL8.out.below hb9)
 have hD9:=Lib.hid (hD8.out.below hb9)
 have hb9':=Lib.hid (hb8'.out.trans (hb9.mono hb8'.out.size))
 have hs2:=Lib.hid (show Calls Tryz.prog 16 #[.pointer (some ⟨d,0,none⟩),.int .i64 1,.int .i64 1] w9 fun e w'=>e = .returned (.tuple #[.int .i64 0,.int .i64 8])∧Below w9.heap.size w9 w' from dsell_8b 1 1 (by decide) (by decide) hD9.out)
 clear hL8 hD8 hb8' hb9
 go_wp2_with fail
 refine hs2.out.mono ?_
 clear hs2
 rintro e w10 ⟨rfl,hb10⟩
 have hL10:=Lib.hid (hL9.out.below hb10)
 have hD10:=Lib.hid (hD9.out.below hb10)
 have hb10':=Lib.hid (hb9'.out.trans (hb10.mono hb9'.out.size))
 have hs3:=Lib.hid (show Calls Tryz.prog 16 #[.pointer (some ⟨d,0,none⟩),.int .i64 0,.int .i64 2] w10 fun e w'=>e = .returned (.tuple #[.int .i64 0,.int .i64 2])∧Below w10.heap.size w10 w' from dsell_2 0 2 (by decide) (by decide) (by simp) hD10.out)
 clear hL9 hD9 hb9' hb10
 go_wp2_with fail
 refine hs3.out.mono ?_
 clear hs3
 rintro e w11 ⟨rfl,hb11⟩
 have hL11:=Lib.hid (hL10.out.below hb11)
 have hD11:=Lib.hid (hD10.out.below hb11)
 have hb11':=Lib.hid (hb10'.out.trans (hb11.mono hb10'.out.size))
 have hpp:pputP q1.fl q1.rows wkT 0 = ([prL 0],40,0):=by rw [s2,s3]; exact wk_putG
 have hs4:=Lib.hid (show Calls Tryz.prog 16 #[.pointer (some ⟨d,0,none⟩),.int .i64 0,.int .i64 1] w11 (fun e w'=>e = .returned (.tuple #[.int .i64 40,.int .i64 0])∧∃ L',PcsAt w.heap.size w' wkT L'∧DlIn w' d L' [1] gP cP qH cH∧L'.length = 2∧
   ((L'.getD 0 pc0).b = p2.b∧(L'.getD 0 pc0).fl = wkF∧(L'.getD 0 pc0).rows = [[]])∧((L'.getD 1 pc0).b = q1.b∧(L'.getD 1 pc0).fl = wkG∧(L'.getD 1 pc0).rows = [prL 0])∧Below w.heap.size w11 w') from by
  refine (dsell_go hD11.out hL11.out hb11'.out.size (r:=0) (h:=0) (c:=1) (by decide) (by simp) (by simp) rfl (by omega) (by show q1.N < 1000000; omega)).mono ?_
  rintro e w' ⟨e1,L',h1,h2,h3,h4,h5⟩
  have hpp':pputP (([p2,q1]:List Pc).getD 1 pc0).fl (([p2,q1]:List Pc).getD 1 pc0).rows wkT ((0:Nat):Int) = ([prL 0],40,0):=hpp
  rw [hpp'] at e1 h2
  rw [if_neg (fun h=>h rfl)] at h2
  obtain ⟨⟨a1,a2,_⟩,a3,_⟩:=h4 0 (by simp)
  obtain ⟨⟨c1,c2,_⟩,c3,_⟩:=h4 1 (by simp)
  have g0:sellR wkT [p2,q1] 0 1 ((0:Nat):Int) 0 = [[]]:=by
   unfold sellR
   rw [hpp',if_neg (fun h=>h rfl),if_neg (by omega),if_pos rfl]
   show (ptakP p2.rows 0).1 = [[]]
   rw [u4]
   exact wk_take
  have g1:sellR wkT [p2,q1] 0 1 ((0:Nat):Int) 1 = [prL 0]:=by
   unfold sellR
   rw [hpp',if_neg (fun h=>h rfl),if_pos rfl]
  refine ⟨e1,L',h1,h2,h3,⟨a1,a2.trans u2,a3.trans g0⟩,⟨c1,c2.trans s2,c3.trans g1⟩,h5.below hb11'.out.size (fun k hk=>?_)⟩
  rcases hk with ⟨i,hi,hk⟩ | ⟨a,ha,rfl⟩
  ·exact (hL11.out.get hi).2.2 k hk
  ·exact hqW.out a ha)
 clear hL10 hD10 hb10' hb11 hL11 hD11
 go_wp2_with fail
 refine hs4.out.mono ?_
 clear hs4
 rintro e w12 ⟨rfl,L',hL',hD',hlen,⟨a1,a2,a3⟩,⟨c1,c2,c3⟩,hb12⟩
 have hL12:=Lib.hid hL'
 have hD12:=Lib.hid hD'
 have hb12':=Lib.hid (hb11'.out.trans hb12)
 have hh1:=Lib.hid (show Calls Tryz.prog 17 #[.pointer (some ⟨d,0,none⟩),.int .i64 0] w12 fun e w'=>e = .returned (.int .i64 1)∧w12 = w' from dholder_calls hD' 0)
 have htt:=Lib.hid (by
  have:=dtotal_calls hD' hL'
  have e:dtK L' wkT 2 = 40:=by
   show 0 + totP (L'.getD 0 pc0).fl (L'.getD 0 pc0).rows wkT + totP (L'.getD 1 pc0).fl (L'.getD 1 pc0).rows wkT = 40
   rw [a2,a3,c2,c3,Int.zero_add]
   exact wk_tot2
  rw [hlen,e] at this
  exact this)
 have hri:=Lib.hid (fun wx (hb:Below w12.heap.size w12 wx)=>(by
  have:=dright_calls (hD'.below hb) (hL'.below hb) (fun r hr=>by
   obtain rfl:r = 0:=by simp at hr; exact hr
   rw [hlen]
   decide)
  have e:rightB L' [1] 1 = true:=by
   rw [rightB_R,list_two (rwsL L') [] (by unfold rwsL; rw [List.length_map,hlen]),rwsL_at,rwsL_at,a3,c3]
   exact wk_right
  rw [show ([1]:List Int).length = 1 from rfl,e] at this
  exact this:Calls Tryz.prog 13 #[.pointer (some ⟨d,0,none⟩)] wx fun e w'=>e = .returned (.bool true)∧Below wx.heap.size wx w'))
 have hha:=Lib.hid (fun wx (hb:Below w12.heap.size w12 wx)=>(by
  have:=(((hL'.below hb).get (i:=0) (by rw [hlen]; omega)).pst hL'.tl).has 0 (wf_lit (by omega))
  rw [a1,a3] at this
  exact this:Calls Tryz.prog 22 #[.pointer (some ⟨p2.b,0,none⟩),.int .i64 0] wx fun e w'=>e = .returned (.bool (decide (0≤whereP [[]] 0)))∧wx = w'))
 have hhb:=Lib.hid (fun wx (hb:Below w12.heap.size w12 wx)=>(by
  have:=(((hL'.below hb).get (i:=1) (by rw [hlen]; omega)).pst hL'.tl).has 0 (wf_lit (by omega))
  rw [c1,c3] at this
  exact this:Calls Tryz.prog 22 #[.pointer (some ⟨q1.b,0,none⟩),.int .i64 0] wx fun e w'=>e = .returned (.bool (decide (0≤whereP [prL 0] 0)))∧wx = w'))
 rw [show decide (0≤whereP ([[]]:List Rou2) 0) = false from by decide +kernel] at hha
 rw [show decide (0≤whereP [prL 0] 0) = true from by decide +kernel] at hhb
 clear hL' hD' hb12 hb11' a1 a2 a3 c1 c2 c3 hpp hL12 hD12
 go_wp2_with fail
 refine hh1.out.mono ?_
 clear hh1
 rintro e w13 ⟨rfl,rfl⟩
 go_wp2_with fail
 refine htt.out.mono ?_
 clear htt
 rintro e w13 ⟨rfl,hb13⟩
 have hr13:=Lib.hid (hri.out w13 hb13)
 have hb13':=Lib.hid hb13
 clear hri hb13
 go_wp2_with fail
 refine hr13.out.mono ?_
 clear hr13
 rintro e w14 ⟨rfl,hb14⟩
 have hb14':=hb13'.out.trans (hb14.mono hb13'.out.size)
 have hha':=Lib.hid (hha.out w14 hb14')
 have hhb':=Lib.hid (hhb.out w14 hb14')
 have hbf:=Lib.hid (hb12'.out.trans (hb14'.mono hb12'.out.size))
 clear hha hhb hb14 hb14' hb13'
 go_wp2_with fail
 refine hha'.out.mono ?_
 rintro e w15 ⟨rfl,rfl⟩
 go_wp2_with fail
 refine hhb'.out.mono ?_
 rintro e w15 ⟨rfl,rfl⟩
 clear hha' hhb'
 go_wp2_with fail
 go_ret
 exact ⟨rfl,hbf.out⟩
end
end
end Go.Proofs.YtkaoflndbcfodaaGreat
