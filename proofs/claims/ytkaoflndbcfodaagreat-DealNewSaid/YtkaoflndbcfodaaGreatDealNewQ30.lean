/-
  The row 'DealNew': a pack of the texts DdArg Wk28, pruned to what the row uses.
-/
import Derived.Test.YtkaoflndbcfodaaGreatDealNewQ29
namespace Go.Proofs.YtkaoflndbcfodaaGreat
set_option maxHeartbeats 8000000
set_option maxRecDepth 100000
section
section
open Go.ChangeShapes Go.WideShapes Go.ChangeAt Go.RowKit
section
variable {H:Type} {enc:TypeId × Value→H} {W:World} {base:Nat} {v:Value} {d:DataW H} {q:List MemPlace}
theorem open_byt {w:World} {fuel:Nat} {held:Bool} {cs:List Value} {x:DataW H × List MemPlace} (h:DataW.trod enc Tryz.prog w base (fun _=>true) held fuel 22 cs = some x):
  ∃ (p:Option Addr) (c:Nat) (B:List Int),DrA w p B 0 0∧cs.take 1 = [.slice p B.length c]:=by
 have c5:Tryz.prog.cellsOf 5 = 1:=by kernel_rfl
 have cS:Tryz.prog.cellsOf 22 = 1:=by kernel_rfl
 obtain ⟨p,L,c,e,hL,hLc,hcm,hb⟩:=open_rows (n:=1) (0:Int) u8V (fun b=>0≤b∧b < 256) (fun _=>rfl) Tryz.underlying22 c5 (fun _ _ _ h=>open_u8 h) h
 refine ⟨p,c,L,⟨fun i b hb=>?_,hb,by omega,by omega,by omega⟩,?_⟩
 ·cases p with
  | none=>
   have:=hL.nil rfl
   simp at this
   subst this
   simp at hb
  | some a=>
   have:=hL.cells a rfl i (u8V b) 0 (.int .u8 b) (by rw [List.getElem?_map,hb]; rfl) rfl
   rw [Nat.mul_one,Nat.add_zero] at this
   exact ⟨a,rfl,this⟩
 ·rw [e]
  rfl
theorem arg_draft28 (hv:Value.okWide Tryz.prog W .any base 26 v) (h:DataW.Trod enc Tryz.prog W 0 (fun _=>true) true 26 v d q):
  ∃ (p pw:Option Addr) (cp cw:Nat) (B Wh:List Int) (n wd k nn:Int),DrA W p B n wd∧DrA W pw Wh 0 0∧(0≤nn∧nn < 256)∧v = .agg (ddC p cp B n wd k pw Wh cw nn):=by
 obtain ⟨C,rfl,hsz0⟩:=okWide_struct Tryz.underlying26 hv
 have c6:Tryz.prog.cellsOf 26 = 6:=by kernel_rfl
 have c8:Tryz.prog.cellsOf 5 = 1:=by kernel_rfl
 have cS:Tryz.prog.cellsOf 22 = 1:=by kernel_rfl
 obtain ⟨fuel,hf⟩:=h
 obtain ⟨n0,y0,h0⟩:=fld_of Tryz.underlying26 hf 0 _ rfl
 obtain ⟨n1,y1,h1⟩:=fld_of Tryz.underlying26 hf 1 _ rfl
 obtain ⟨nn,en,wn⟩:=fld_int Tryz.underlying26 hf 2 _ rfl c8 Tryz.underlying5
 obtain ⟨p,cp,B,n,wd,k,hA,hr⟩:=open_dr h0
 obtain ⟨pw,cw,Wh,hW,ew⟩:=open_byt h1
 have e:C = (ddC p cp B n wd k pw Wh cw nn).toList.toArray:=agg_eq (by rw [hsz0,c6]; rfl) (fun j v hj=>by
  match j with
  | 0=>cases hj; exact part_at (hr 0 _ rfl)
  | 1=>cases hj; exact part_at (hr 1 _ rfl)
  | 2=>cases hj; exact part_at (hr 2 _ rfl)
  | 3=>cases hj; exact part_at (hr 3 _ rfl)
  | 4=>cases hj; exact part_at (i:=0) (by
    have:=congrArg (fun l:List Value=>l[0]?) ew
    simpa [Value.cells] using this)
  | 5=>cases hj; exact en
  | j + 6=>simp [ddC] at hj)
 exact ⟨p,pw,cp,cw,B,Wh,n,wd,k,nn,hA,hW,u8_of wn,by rw [e]⟩
end
end
end
section
section
open Go.RowKit
section
variable {B:Nat} {w:World} {t:List Rq}
theorem two_put {p q:Pc} (h:PcsAt B w t [p,q]) (hB:B≤w.heap.size) (hN:p.N < 1000) {req z1 z2:Int} {R:List Rou2} (hr:pputP p.fl p.rows t req = (R,z1,z2)) (hq:wf64 req):
  Calls Tryz.prog 11 #[.pointer (some ⟨p.b,0,none⟩),.int .i64 req] w fun e w'=>e = .returned (.tuple #[.int .i64 z1,.int .i64 z2])∧∃ p':Pc,(p'.b = p.b∧p'.fl = p.fl∧p'.N = p.N + 1∧p'.rows = R)∧PcsAt B w' t [p',q]∧Below B w w':=by
 have h0:=(h.get (i:=0) (by simp))
 have h1:=h.put hB (i:=0) (by simp) (by show p.N < 1000000; omega) req hq
 refine h1.mono ?_
 rintro e w' ⟨e1,m1,F',_,h2⟩
 have e1':e = .returned (.tuple #[.int .i64 (pputP p.fl p.rows t req).2.1,.int .i64 (pputP p.fl p.rows t req).2.2]):=e1
 rw [hr] at e1'
 refine ⟨e1',{ p with N:=p.N + 1,rows:=R,F:=F' },⟨rfl,rfl,rfl,rfl⟩,?_,m1.below hB (fun k hk=>?_)⟩
 ·have h3:PcsAt B w' t [{ p with N:=p.N + 1,rows:=(pputP p.fl p.rows t req).1,F:=F' },q]:=h2
  rwa [hr] at h3
 ·rcases hk with rfl | rfl
  ·exact h0.2.2 _ h0.own.2.1
  ·exact h0.2.2 _ h0.own.2.2.1
theorem new_more {L:List Pc} {w0:World} {fl:List Ve} {b gT gM:Nat} {F:Nat→Prop} (h:PcsAt B w0 t L) (hb:Below w0.heap.size w0 w) (hB:B≤w0.heap.size) (hF:∀ k,F k→w0.heap.size≤k) (hPl:PlanAt w F b gT gM 0 fl (rows0 fl) t) (hc:newC fl t = 0):
  PcsAt B w t (L ++ [⟨b,gT,gM,0,fl,rows0 fl,F⟩]):=
 h.more hb ⟨hPl,ok0 hc,fun k hk=>Nat.le_trans hB (hF k hk)⟩ hF
end
theorem works28_calls (w:World):Calls Tryz.prog 9 #[] w fun e w'=>e = .returned (.bool true)∧Below w.heap.size w w':=by
 go_enter Tryz.func9,Tryz.ntmps9
 go_upto_region 3 with fail
 refine wp_world' (fun wx=>Els wx (some ⟨w.heap.size + 1,0,none⟩) 10 (wkT.map rqV)∧Below w.heap.size w wx) ⟨els_litP (blk_newAtC (by simp) (wkT.map rqV).flatten.toArray 55) (rqV_len _) (by decide),(new_below _ _).alloc (by simp) _⟩ ?_
 rintro w1 ⟨hT,hb1⟩
 have hF1:=els_litP (Blk.new w1 (wkF.map veR).flatten.toArray 59) (veR_lenP _) (by decide)
 have hlow1:=new_below w1 (.cells (wkF.map veR).flatten.toArray 59)
 have hba:=hb1.trans (hlow1.mono hb1.size)
 have hn1:=Lib.hid (pnew_calls (some ⟨w1.heap.size,0,none⟩) (some ⟨w.heap.size + 1,0,none⟩) 1 1 wkF wkT _ hF1 (by decide) (hT.below hlow1) (by decide))
 unfold NwPost at hn1
 have hL0:=Lib.hid (PcsAt.nil (B:=w.heap.size) (w:=w1.alloc (.cells (wkF.map veR).flatten.toArray 59)) (t:=wkT) (by decide))
 replace hT:=Lib.hid (hT.below hlow1)
 replace hba:=Lib.hid hba
 clear hF1 hlow1 hb1
 go_wp2_with fail
 refine hn1.out.mono ?_
 clear hn1
 rintro e w2 ⟨hb2,hor⟩
 rcases hor with ⟨h,_⟩ | ⟨_,b1,gT1,gM1,F1,rfl,hF1,hPl1⟩
 ·exact absurd wk_new h
 have hL1:=new_more hL0.out hb2 hba.out.size hF1 hPl1 wk_new
 have hT2:=hT.out.below hb2
 have hbb:=hba.out.trans (hb2.mono hba.out.size)
 have hF2:=els_litP (Blk.new w2 (wkG.map veR).flatten.toArray 59) (veR_lenP _) (by decide)
 have hlow2:=new_below w2 (.cells (wkG.map veR).flatten.toArray 59)
 have hn2:=Lib.hid (pnew_calls (some ⟨w2.heap.size,0,none⟩) (some ⟨w.heap.size + 1,0,none⟩) 1 1 wkG wkT _ hF2 (by decide) (hT2.below hlow2) (by decide))
 unfold NwPost at hn2
 have hL1':=Lib.hid (hL1.below hlow2)
 have hbc:=Lib.hid (hbb.trans (hlow2.mono hbb.size))
 clear hF2 hlow2 hT2 hT hL1 hL0 hba hbb hPl1 hF1 hb2
 go_wp2_with fail
 refine hn2.out.mono ?_
 clear hn2
 rintro e w3 ⟨hb3,hor⟩
 rcases hor with ⟨h,_⟩ | ⟨_,b2,gT2,gM2,F2,rfl,hF2,hPl2⟩
 ·exact absurd wk_newG h
 have hL2:=new_more hL1'.out hb3 hbc.out.size hF2 hPl2 wk_newG
 have hb3':=Lib.hid (hbc.out.trans (hb3.mono hbc.out.size))
 obtain ⟨p1,ep1⟩:∃ p:Pc,p = ⟨b1,gT1,gM1,0,wkF,rows0 wkF,F1⟩:=⟨_,rfl⟩
 obtain ⟨q1,eq1⟩:∃ p:Pc,p = ⟨b2,gT2,gM2,0,wkG,rows0 wkG,F2⟩:=⟨_,rfl⟩
 have hL3:PcsAt w.heap.size w3 wkT [p1,q1]:=by
  rw [ep1,eq1]
  exact hL2
 obtain ⟨r1,r2,r3,r4⟩:p1.b = b1∧p1.fl = wkF∧p1.rows = rows0 wkF∧p1.N = 0:=by rw [ep1]; exact ⟨rfl,rfl,rfl,rfl⟩
 obtain ⟨s1,s2,s3,s4⟩:q1.b = b2∧q1.fl = wkG∧q1.rows = rows0 wkG∧q1.N = 0:=by rw [eq1]; exact ⟨rfl,rfl,rfl,rfl⟩
 clear ep1 eq1 hL2 hL1' hF2 hPl2 hb3 hbc
 subst s1
 have hpu:=Lib.hid (by
  have:=two_put hL3 hb3'.out.size (by omega) (req:=0) (R:=[prL 0]) (z1:=40) (z2:=0) (by rw [r2,r3]; exact wk_put) (wf_lit (by omega))
  rw [r1,r2,r4] at this
  exact this)
 clear hL3 r1 r2 r3 r4
 go_wp2_with fail
 refine hpu.out.mono ?_
 clear hpu
 rintro e w4 ⟨rfl,p2,⟨u1,u2,u3,u4⟩,hL4,hb4⟩
 subst u1
 have hb4':=Lib.hid (hb3'.out.trans hb4)
 have hne:=hL4.ne (i:=0) (j:=1) (by simp) (by simp) (by omega)
 change p2.b ≠ q1.b at hne
 have hdl:dlC [some p2,some q1] wkT [0] = 0:=by
  rw [dlC_two hne (by decide),u4,s3]
  exact wk_hold
 have hQl:=els_litP (n:=1) (R:=[some p2,some q1].map ptrO) (blk_newAtC (w:=w4) rfl ([some p2,some q1].map ptrO).flatten.toArray 42) (ptrO_len _) (by simp)
 have hw5:=new_below w4 (.cells ([some p2,some q1].map ptrO).flatten.toArray 42)
 have hHl:=els_litP (n:=1) (R:=([0]:List Int).map inV) (blk_newAtC (w:=w4.alloc (.cells ([some p2,some q1].map ptrO).flatten.toArray 42)) (g:=w4.heap.size + 1) (by simp) (([0]:List Int).map inV).flatten.toArray 3) (inV_lenD _) (by decide)
 have hw6:=new_below (w4.alloc (.cells ([some p2,some q1].map ptrO).flatten.toArray 42)) (.cells (([0]:List Int).map inV).flatten.toArray 3)
 have hw46:=hw5.trans (hw6.mono (by simp))
 have hL6:=hL4.below hw46
 have hn3:=Lib.hid (dnew_calls [some p2,some q1] [0] (some ⟨w4.heap.size,0,none⟩) (some ⟨w4.heap.size + 1,0,none⟩) 2 1 _ (hQl.below hw6) hHl (by simp) (by decide) (fun p hp=>by
  simp only [List.mem_cons,Option.some.injEq,List.not_mem_nil,or_false] at hp
  exact hL6.at_ p (by simp only [List.mem_cons,List.not_mem_nil,or_false]; exact hp)) (by decide) (fun p hp=>by
  simp only [List.mem_cons,Option.some.injEq,List.not_mem_nil,or_false] at hp
  rcases hp with rfl | rfl <;> omega))
 have hL6':=Lib.hid hL6
 have hb6:=Lib.hid (hb4'.out.trans (hw46.mono hb4'.out.size))
 clear hL4 hb4 hb3' hb4' hQl hHl hw5 hw6 hw46 hL6
 go_wp2_with fail
 refine hn3.out.mono ?_
 clear hn3
 rintro e w7 ⟨hb7,hor⟩
 rcases hor with ⟨h,_⟩ | ⟨_,d,gP,cP,qH,cH,rfl,hD,_,_,hqH⟩
 ·exact absurd hdl h
 have hqW:=Lib.hid (fun a (ha:qH = some a)=>Nat.le_trans hb6.out.size (hqH a ha (by simp)))
 clear hqH
 have hL7:=Lib.hid (hL6'.out.below hb7)
 have hb7':=Lib.hid (hb6.out.trans (hb7.mono hb6.out.size))
 have hD7:=Lib.hid (show DlIn w7 d [p2,q1] [0] gP cP qH cH from hD)
 have hh0:=Lib.hid (show Calls Tryz.prog 17 #[.pointer (some ⟨d,0,none⟩),.int .i64 0] w7 fun e w'=>e = .returned (.int .i64 0)∧w7 = w' from dholder_calls hD7.out 0)
 have htt:=Lib.hid (by
  have:=dtotal_calls hD7.out hL7.out
  have e:dtK [p2,q1] wkT 2 = 40:=by
   show 0 + totP p2.fl p2.rows wkT + totP q1.fl q1.rows wkT = 40
   rw [u2,u4,s2,s3,Int.zero_add]
   exact wk_tot
  rw [show ([p2,q1]:List Pc).length = 2 from rfl,e] at this
  exact this)
 clear hD hb7 hL6' hb6 hdl
 go_wp2_with fail
 refine hh0.out.mono ?_
 clear hh0
 rintro e w8 ⟨rfl,rfl⟩
 go_wp2_with fail
 refine htt.out.mono ?_
 clear htt
 rintro e w8 ⟨rfl,hb8⟩
 have hL8:=Lib.hid (hL7.out.below hb8)
 have hD8:=Lib.hid (hD7.out.below hb8)
 have hb8':=Lib.hid (hb7'.out.trans (hb8.mono hb7'.out.size))
 have hs1:=Lib.hid (show Calls Tryz.prog 16 #[.pointer (some ⟨d,0,none⟩),.int .i64 0,.int .i64 0] w8 fun e w'=>e = .returned (.tuple #[.int .i64 0,.int .i64 18])∧Below w8.heap.size w8 w' from dsell_18 (r:=0) 0 (by decide) (by simp) rfl hD8.out)
 clear hL7 hD7 hb7' hb8
 go_wp2_with fail
 refine hs1.out.mono ?_
 clear hs1
 rintro e w9 ⟨rfl,hb9⟩
 have hL9:=Lib.hid (hL8.out.below hb9)
 have hD9:=Lib.hid (hD8.out.below hb9)
 have hb9':=Lib.hid (hb8'.out.trans (hb9.mono hb8'.out.size))
 have hs2:=Lib.hid (show Calls Tryz.prog 16 #[.pointer (some ⟨d,0,none⟩),.int .i64 1,.int .i64 1] w9 fun e w'=>e = .returned (.tuple #[.int .i64 0,.int .i64 8])∧Below w9.heap.size w9 w' from dsell_8b 1 1 (by decide) (by decide) hD9.out)
 clear hL8 hD8 hb8' hb9
 go_wp2_with fail
 refine hs2.out.mono ?_
 clear hs2
 rintro e w10 ⟨rfl,hb10⟩
 have hL10:=Lib.hid (hL9.out.below hb10)
 have hD10:=Lib.hid (hD9.out.below hb10)
 have hb10':=Lib.hid (hb9'.out.trans (hb10.mono hb9'.out.size))
 have hs3:=Lib.hid (show Calls Tryz.prog 16 #[.pointer (some ⟨d,0,none⟩),.int .i64 0,.int .i64 2] w10 fun e w'=>e = .returned (.tuple #[.int .i64 0,.int .i64 2])∧Below w10.heap.size w10 w' from dsell_2 0 2 (by decide) (by decide) (by simp) hD10.out)
 clear hL9 hD9 hb9' hb10
 go_wp2_with fail
 refine hs3.out.mono ?_
 clear hs3
 rintro e w11 ⟨rfl,hb11⟩
 have hL11:=Lib.hid (hL10.out.below hb11)
 have hD11:=Lib.hid (hD10.out.below hb11)
 have hb11':=Lib.hid (hb10'.out.trans (hb11.mono hb10'.out.size))
 have hpp:pputP q1.fl q1.rows wkT 0 = ([prL 0],40,0):=by rw [s2,s3]; exact wk_putG
 have hs4:=Lib.hid (show Calls Tryz.prog 16 #[.pointer (some ⟨d,0,none⟩),.int .i64 0,.int .i64 1] w11 (fun e w'=>e = .returned (.tuple #[.int .i64 40,.int .i64 0])∧∃ L',PcsAt w.heap.size w' wkT L'∧DlIn w' d L' [1] gP cP qH cH∧L'.length = 2∧
   ((L'.getD 0 pc0).b = p2.b∧(L'.getD 0 pc0).fl = wkF∧(L'.getD 0 pc0).rows = [[]])∧((L'.getD 1 pc0).b = q1.b∧(L'.getD 1 pc0).fl = wkG∧(L'.getD 1 pc0).rows = [prL 0])∧Below w.heap.size w11 w') from by
  refine (dsell_go hD11.out hL11.out hb11'.out.size (r:=0) (h:=0) (c:=1) (by decide) (by simp) (by simp) rfl (by omega) (by show q1.N < 1000000; omega)).mono ?_
  rintro e w' ⟨e1,L',h1,h2,h3,h4,h5⟩
  have hpp':pputP (([p2,q1]:List Pc).getD 1 pc0).fl (([p2,q1]:List Pc).getD 1 pc0).rows wkT ((0:Nat):Int) = ([prL 0],40,0):=hpp
  rw [hpp'] at e1 h2
  rw [if_neg (fun h=>h rfl)] at h2
  obtain ⟨⟨a1,a2,_⟩,a3,_⟩:=h4 0 (by simp)
  obtain ⟨⟨c1,c2,_⟩,c3,_⟩:=h4 1 (by simp)
  have g0:sellR wkT [p2,q1] 0 1 ((0:Nat):Int) 0 = [[]]:=by
   unfold sellR
   rw [hpp',if_neg (fun h=>h rfl),if_neg (by omega),if_pos rfl]
   show (ptakP p2.rows 0).1 = [[]]
   rw [u4]
   exact wk_take
  have g1:sellR wkT [p2,q1] 0 1 ((0:Nat):Int) 1 = [prL 0]:=by
   unfold sellR
   rw [hpp',if_neg (fun h=>h rfl),if_pos rfl]
  refine ⟨e1,L',h1,h2,h3,⟨a1,a2.trans u2,a3.trans g0⟩,⟨c1,c2.trans s2,c3.trans g1⟩,h5.below hb11'.out.size (fun k hk=>?_)⟩
  rcases hk with ⟨i,hi,hk⟩ | ⟨a,ha,rfl⟩
  ·exact (hL11.out.get hi).2.2 k hk
  ·exact hqW.out a ha)
 clear hL10 hD10 hb10' hb11 hL11 hD11
 go_wp2_with fail
 refine hs4.out.mono ?_
 clear hs4
 rintro e w12 ⟨rfl,L',hL',hD',hlen,⟨a1,a2,a3⟩,⟨c1,c2,c3⟩,hb12⟩
 have hL12:=Lib.hid hL'
 have hD12:=Lib.hid hD'
 have hb12':=Lib.hid (hb11'.out.trans hb12)
 have hh1:=Lib.hid (show Calls Tryz.prog 17 #[.pointer (some ⟨d,0,none⟩),.int .i64 0] w12 fun e w'=>e = .returned (.int .i64 1)∧w12 = w' from dholder_calls hD' 0)
 have htt:=Lib.hid (by
  have:=dtotal_calls hD' hL'
  have e:dtK L' wkT 2 = 40:=by
   show 0 + totP (L'.getD 0 pc0).fl (L'.getD 0 pc0).rows wkT + totP (L'.getD 1 pc0).fl (L'.getD 1 pc0).rows wkT = 40
   rw [a2,a3,c2,c3,Int.zero_add]
   exact wk_tot2
  rw [hlen,e] at this
  exact this)
 have hri:=Lib.hid (fun wx (hb:Below w12.heap.size w12 wx)=>(by
  have:=dright_calls (hD'.below hb) (hL'.below hb) (fun r hr=>by
   obtain rfl:r = 0:=by simp at hr; exact hr
   rw [hlen]
   decide)
  have e:rightB L' [1] 1 = true:=by
   rw [rightB_R,list_two (rwsL L') [] (by unfold rwsL; rw [List.length_map,hlen]),rwsL_at,rwsL_at,a3,c3]
   exact wk_right
  rw [show ([1]:List Int).length = 1 from rfl,e] at this
  exact this:Calls Tryz.prog 13 #[.pointer (some ⟨d,0,none⟩)] wx fun e w'=>e = .returned (.bool true)∧Below wx.heap.size wx w'))
 have hha:=Lib.hid (fun wx (hb:Below w12.heap.size w12 wx)=>(by
  have:=(((hL'.below hb).get (i:=0) (by rw [hlen]; omega)).pst hL'.tl).has 0 (wf_lit (by omega))
  rw [a1,a3] at this
  exact this:Calls Tryz.prog 22 #[.pointer (some ⟨p2.b,0,none⟩),.int .i64 0] wx fun e w'=>e = .returned (.bool (decide (0≤whereP [[]] 0)))∧wx = w'))
 have hhb:=Lib.hid (fun wx (hb:Below w12.heap.size w12 wx)=>(by
  have:=(((hL'.below hb).get (i:=1) (by rw [hlen]; omega)).pst hL'.tl).has 0 (wf_lit (by omega))
  rw [c1,c3] at this
  exact this:Calls Tryz.prog 22 #[.pointer (some ⟨q1.b,0,none⟩),.int .i64 0] wx fun e w'=>e = .returned (.bool (decide (0≤whereP [prL 0] 0)))∧wx = w'))
 rw [show decide (0≤whereP ([[]]:List Rou2) 0) = false from by decide +kernel] at hha
 rw [show decide (0≤whereP [prL 0] 0) = true from by decide +kernel] at hhb
 clear hL' hD' hb12 hb11' a1 a2 a3 c1 c2 c3 hpp hL12 hD12
 go_wp2_with fail
 refine hh1.out.mono ?_
 clear hh1
 rintro e w13 ⟨rfl,rfl⟩
 go_wp2_with fail
 refine htt.out.mono ?_
 clear htt
 rintro e w13 ⟨rfl,hb13⟩
 have hr13:=Lib.hid (hri.out w13 hb13)
 have hb13':=Lib.hid hb13
 clear hri hb13
 go_wp2_with fail
 refine hr13.out.mono ?_
 clear hr13
 rintro e w14 ⟨rfl,hb14⟩
 have hb14':=hb13'.out.trans (hb14.mono hb13'.out.size)
 have hha':=Lib.hid (hha.out w14 hb14')
 have hhb':=Lib.hid (hhb.out w14 hb14')
 have hbf:=Lib.hid (hb12'.out.trans (hb14'.mono hb12'.out.size))
 clear hha hhb hb14 hb14' hb13'
 go_wp2_with fail
 refine hha'.out.mono ?_
 rintro e w15 ⟨rfl,rfl⟩
 go_wp2_with fail
 refine hhb'.out.mono ?_
 rintro e w15 ⟨rfl,rfl⟩
 clear hha' hhb'
 go_wp2_with fail
 go_ret
 exact ⟨rfl,hbf.out⟩
end
end
end Go.Proofs.YtkaoflndbcfodaaGreat
