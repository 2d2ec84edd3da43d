/-
  The row 'DealNew': a pack of the texts Des, pruned to what the row uses.
-/
import Derived.Test.YtkaoflndbcfodaaGreatDealNewQ24
import Derived.Defers
namespace Go.Proofs.YtkaoflndbcfodaaGreat
set_option maxHeartbeats 8000000
set_option maxRecDepth 100000
section
section
open Go.RowKit
section
variable {ρ:Operand→Value} {o:Oper} {w:World} {x y:Operand}
theorem run_callTk {a b:Value} (ho:o.op = .call { callee:=.value (.func 14),args:=#[x,y],argTypes:=#[42,3] }) (hx:ρ x = a) (hy:ρ y = b)
  (hf:ρ (.func 14) = .func (.func 14) #[] #[]:=by rfl):(execOp ρ o).run Tryz.prog w = .ok (.enter 14 #[a,b]) w:=by
 unfold execOp
 simp only [ho]
 go_simp
theorem run_callPu {a b:Value} (ho:o.op = .call { callee:=.value (.func 11),args:=#[x,y],argTypes:=#[42,3] }) (hx:ρ x = a) (hy:ρ y = b)
  (hf:ρ (.func 11) = .func (.func 11) #[] #[]:=by rfl):(execOp ρ o).run Tryz.prog w = .ok (.enter 11 #[a,b]) w:=by
 unfold execOp
 simp only [ho]
 go_simp
theorem run_storeE {p:Addr} {n:Int} {u:Value} (ho:o.op = .store 41 x y) (hx:ρ x = .pointer (some p)) (hy:ρ y = .int .i64 n) (hc:w.cell? p = some u) (hf:w.frozen? p = false):(execOp ρ o).run Tryz.prog w = .ok .skip (w.setCell p (.int .i64 n)):=by
 unfold execOp
 simp only [ho,hx,hy]
 go_simp
end
def SlC (w:World) (R:World→World→Prop) (b:Bool) (W:World):Prop:=(b = false→Mod (fun _=>False) w W)∧(b = true→∃ W0,Mod (fun _=>False) w W0∧R W0 W)
def SlE (w:World) (R:World→World→Prop) (p:Addr) (v:Value) (b1 b2:Bool) (W:World):Prop:=(b1 = false→Mod (fun _=>False) w W)∧(b1 = true→∃ W1,(∃ W0,Mod (fun _=>False) w W0∧R W0 W1)∧W = bif b2 then W1.setCell p v else W1)
section
variable {B:Nat} {w w':World} {t:List Rq} {d:Nat} {L:List Pc} {H:List Int} {gP cP:Nat} {qH:Option Addr} {cH:Nat}
theorem DlIn.turn (h:DlIn w d L H gP cP qH cH) (hP:PcsAt B w t L) {i:Nat} (hi:i < L.length) {p:Pc} (hm:Mod (fun k=>k = (L.getD i pc0).gT∨k = (L.getD i pc0).gM) w w') (hb:p.b = (L.getD i pc0).b) (hF:∀ k,p.F k→(L.getD i pc0).F k∨w.heap.size≤k):DlIn w' d (L.set i p) H gP cP qH cH:=by
 have ho:=(hP.get hi).own
 have hLi:L.getD i pc0 = L[i]:=by rw [List.getD_eq_getElem?_getD,List.getElem?_eq_getElem hi]; rfl
 have hmem:L.getD i pc0 ∈ L:=by rw [hLi]; exact List.getElem_mem hi
 obtain ⟨a1,a2,a3⟩:=h.ap _ hmem
 have hS:∀ k,k = (L.getD i pc0).gT∨k = (L.getD i pc0).gM→(L.getD i pc0).F k:=fun k hk=>by
  rcases hk with rfl | rfl
  ·exact ho.2.1
  ·exact ho.2.2.1
 have h2:=h.mod hm (fun s=>a1 (hS _ s)) (fun s=>a2 (hS _ s)) (fun a ha h0 s=>a3 a ha h0 (hS _ s))
 have e:(L.set i p).map ptrR = L.map ptrR:=by
  rw [List.map_set]
  apply List.ext_getElem?
  intro j
  by_cases hij:i = j
  ·subst hij
   rw [List.getElem?_set_self (by simpa using hi),List.getElem?_map,List.getElem?_eq_getElem hi]
   show some (ptrR p) = some (ptrR L[i])
   unfold ptrR
   rw [hb,hLi]
  ·rw [List.getElem?_set_ne hij]
 refine ⟨by rw [List.length_set]; exact h2.box,by rw [e]; exact h2.pls,h2.hol,h2.hb,h2.lt,fun q hq=>?_,h2.nP,by rw [List.length_set]; exact h2.many⟩
 rcases List.mem_or_eq_of_mem_set hq with hq | rfl
 ·exact h.ap q hq
 ·refine ⟨fun hk=>?_,fun hk=>?_,fun a ha h0 hk=>?_⟩
  ·rcases hF _ hk with hk | hk
   ·exact a1 hk
   ·have:=h.lt.1; omega
  ·rcases hF _ hk with hk | hk
   ·exact a2 hk
   ·have:=h.lt.2; omega
  ·rcases hF _ hk with hk | hk
   ·exact a3 a ha h0 hk
   ·obtain ⟨gH,C,e2,hB⟩:=h.hb h0
    rw [e2] at ha
    cases ha
    have:=hB.lt
    simp only at hk
    omega
theorem DlIn.give (h:DlIn w d L H gP cP qH cH) {r:Nat} (hr:r < H.length) {gH:Nat} (hq:qH = some ⟨gH,0,none⟩) (v:Int):DlIn (w.setCell ((⟨gH,0,none⟩:Addr).add r) (.int .i64 v)) d L (H.set r v) gP cP qH cH∧Mod (· = gH) w (w.setCell ((⟨gH,0,none⟩:Addr).add r) (.int .i64 v)):=by
 have h0:H ≠ []:=fun e=>by rw [e] at hr; simp at hr
 obtain ⟨gH2,C,e2,hB⟩:=h.hb h0
 rw [hq] at e2
 cases e2
 rw [addr0P]
 have hm:=(Mod.refl (· = gH) w).setCell (p:=⟨gH,r,none⟩) (fun _=>rfl) (.int .i64 v)
 have hd:gH ≠ d:=by
  rintro rfl
  have h1:w.heap[gH]? = some (.cells C 3 (0,0)):=hB
  have h2:w.heap[gH]? = some (.cells _ 92 (0,0)):=h.box
  rw [h1] at h2
  cases h2
 have hgP:gH ≠ gP:=h.nP _ hq h0
 have hE:=els_setP hB (by rw [← hq]; exact h.hol) (K:=r) (by rw [List.length_map]; exact hr) (J:=0) (by omega) (.int .i64 v)
 rw [Nat.mul_one,Nat.add_zero] at hE
 have eL:(H.map inV).set r ((H.map inV)[r]'(by rw [List.length_map]; exact hr) |>.set 0 (.int .i64 v)) = (H.set r v).map inV:=by
  rw [List.map_set]
  congr 1
  rw [List.getElem_map]
  rfl
 rw [eL] at hE
 refine ⟨⟨by rw [List.length_set]; exact h.box.mod hm (fun e=>hd e.symm),els_modP h.pls hm (fun a ha _ s=>by cases ha; exact hgP s.symm),by rw [hq]; exact hE,fun _=>⟨gH,_,hq,hB.set r (.int .i64 v)⟩,⟨Nat.lt_of_lt_of_le h.lt.1 hm.size,Nat.lt_of_lt_of_le h.lt.2 hm.size⟩,
  fun p hp=>⟨(h.ap p hp).1,(h.ap p hp).2.1,fun a ha _=>(h.ap p hp).2.2 a ha h0⟩,fun a ha _=>h.nP a ha h0,by rw [List.length_set]; exact h.many⟩,hm⟩
theorem sell1_no (u:FrameMode) (bE bD bR bT:Nat) (z:Int) (hz:z ≠ 0) (hE:Blk w bE #[.int .i64 z] 41):
  CallsD Tryz.prog 41 #[.pointer (some ⟨bE,0,none⟩),.pointer (some ⟨bD,0,none⟩),.pointer (some ⟨bR,0,none⟩),.pointer (some ⟨bT,0,none⟩)] u w fun e u' w'=>u' = u∧(e = .returned (.tuple #[])∧w' = w):=by
 have k0:=hE.cell (i:=0) rfl
 have h0:(z == 0) = false:=beq_eq_false_iff_ne.2 hz
 clear hE
 go_enter_d Tryz.func41,Tryz.ntmps41
 go_wp2_with fail
 go_end0
 exact ⟨rfl,rfl⟩
def S1Post (B:Nat) (w:World) (t:List Rq) (d:Nat) (L:List Pc) (H:List Int) (gP cP:Nat) (qH:Option Addr) (cH c r:Nat) (tv:Int) (w':World):Prop:=
 ∃ p:Pc,(p.b = (L.getD c pc0).b∧p.fl = (L.getD c pc0).fl∧p.N = (L.getD c pc0).N∧p.rows = (ptakP (L.getD c pc0).rows (r:Int)).1)∧(∀ k,p.F k→(L.getD c pc0).F k∨w.heap.size≤k)∧PcsAt B w' t (L.set c p)∧DlIn w' d (L.set c p) (H.set r tv) gP cP qH cH∧
  Mod (fun k=>(L.getD c pc0).F k∨∃ a,qH = some a∧k = a.block) w w'
theorem sell1_yes (u:FrameMode) (hDl:DlIn w d L H gP cP qH cH) (hP:PcsAt B w t L) (hB:B≤w.heap.size) (bE bD bR bT:Nat) {r c:Nat} (tv:Int) (hr:r < H.length) (hc:c < L.length) (hcH:H.getD r 0 = (c:Int))
  (hE:Blk w bE #[.int .i64 0] 41) (hbD:Blk w bD #[.pointer (some ⟨d,0,none⟩)] 31) (hbR:Blk w bR #[.int .i64 (r:Int)] 3) (hbT:Blk w bT #[.int .i64 tv] 3) (hfr:¬ (L.getD c pc0).F bD∧¬ (L.getD c pc0).F bR∧¬ (L.getD c pc0).F bT):
  CallsD Tryz.prog 41 #[.pointer (some ⟨bE,0,none⟩),.pointer (some ⟨bD,0,none⟩),.pointer (some ⟨bR,0,none⟩),.pointer (some ⟨bT,0,none⟩)] u w fun e u' w'=>u' = u∧(e = .returned (.tuple #[])∧S1Post B w t d L H gP cP qH cH c r tv w'):=by
 obtain ⟨gH,CH,hqH,hBH⟩:=hDl.hb (fun e=>by rw [e] at hr; simp at hr)
 subst hqH
 have hr64:r < 64:=by have:=hDl.many.2; omega
 have hlm:=fun {wx:World} (hm:Mod (fun _=>False) w wx)=>hm.below (Nat.le_refl _) (fun _ h=>h.elim)
 have hD:=Lib.hid (fun wx (hm:Mod (fun _=>False) w wx)=>run_cellDl ((hbD.mod hm (fun h=>h)).cell (i:=0) (v:=.pointer (some ⟨d,0,none⟩)) rfl))
 have hR:=Lib.hid (fun wx (hm:Mod (fun _=>False) w wx)=>run_i64D ((hbR.mod hm (fun h=>h)).cell (i:=0) (v:=.int .i64 (r:Int)) rfl))
 have hPs:=Lib.hid (fun wx (hm:Mod (fun _=>False) w wx)=>run_cellPs ((hDl.below (hlm hm)).box.cell (i:=0) rfl))
 have hHs:=Lib.hid (fun wx (hm:Mod (fun _=>False) w wx)=>run_cellIs ((hDl.below (hlm hm)).box.cell (i:=1) rfl))
 have hO:=Lib.hid (fun wx (hm:Mod (fun _=>False) w wx)=>(by
  obtain ⟨g2,e,hcell⟩:=(hDl.below (hlm hm)).own hr
  cases e
  rw [hcH] at hcell
  exact run_i64D hcell:(loadVar 3 ((⟨gH,0,none⟩:Addr).add r)).run Tryz.prog wx = .ok (.int .i64 (c:Int)) wx))
 have hPt:=Lib.hid (fun wx (hm:Mod (fun _=>False) w wx)=>run_cellPl ((hDl.below (hlm hm)).ptr hc))
 obtain ⟨tc,htc⟩:∃ tc,(ptakP (L.getD c pc0).rows (r:Int)).2 = tc:=⟨_,rfl⟩
 obtain ⟨bc,hbc⟩:∃ bc,(L.getD c pc0).b = bc:=⟨_,rfl⟩
 obtain ⟨R,hRR⟩:∃ R:World→World→Prop,R = fun W0 W=>Mod (fun k=>k = (L.getD c pc0).gT∨k = (L.getD c pc0).gM) W0 W∧∃ F',(∀ k,F' k→(L.getD c pc0).F k∨W0.heap.size≤k)∧PcsAt B W t (L.set c { L.getD c pc0 with rows:=(ptakP (L.getD c pc0).rows (r:Int)).1,F:=F' }):=⟨_,rfl⟩
 have htk:=Lib.hid (fun wx (hm:Mod (fun _=>False) w wx)=>(by
  have:=(hP.below (hlm hm)).take (Nat.le_trans hB hm.size) hc (r:Int) (by unfold wf64; omega)
  rw [htc,hbc] at this
  rw [hRR]
  exact this:Calls Tryz.prog 14 #[.pointer (some ⟨bc,0,none⟩),.int .i64 (r:Int)] wx fun e w'=>e = .returned (.int .i64 tc)∧R wx w'))
 rw [hbc] at hPt
 have k0:=hE.cell (i:=0) rfl
 obtain ⟨n,hn⟩:∃ n,L.length = n:=⟨_,rfl⟩
 obtain ⟨m,hm⟩:∃ m,H.length = m:=⟨_,rfl⟩
 have hcn:c < n:=by omega
 have hrm:r < m:=by omega
 rw [hn] at hPs
 rw [hm] at hHs
 have hcon:=Lib.hid (show ∀ W0 W,Mod (fun _=>False) w W0→R W0 W→DlIn W d L H gP cP (some ⟨gH,0,none⟩) cH∨True from fun _ _ _ _=>.inr trivial)
 clear hcon
 have hst:=Lib.hid (show ∀ W0 W,Mod (fun _=>False) w W0→R W0 W→∃ F',(∀ k,F' k→(L.getD c pc0).F k∨w.heap.size≤k)∧PcsAt B W t (L.set c { L.getD c pc0 with rows:=(ptakP (L.getD c pc0).rows (r:Int)).1,F:=F' })∧
   DlIn W d (L.set c { L.getD c pc0 with rows:=(ptakP (L.getD c pc0).rows (r:Int)).1,F:=F' }) H gP cP (some ⟨gH,0,none⟩) cH∧Mod (fun k=>(L.getD c pc0).F k) w W from fun W0 W h0 hR=>by
  rw [hRR] at hR
  obtain ⟨h1,F',h2,h3⟩:=hR
  have ho:=(hP.get hc).own
  refine ⟨F',fun k hk=>?_,h3,(hDl.below (hlm h0)).turn (hP.below (hlm h0)) hc h1 rfl h2,(h0.mono (fun _ _ h=>h.elim)).trans (h1.mono (fun k _ hk=>by rcases hk with rfl | rfl; exact ho.2.1; exact ho.2.2.1))⟩
  rcases h2 k hk with h | h
  ·exact .inl h
  ·exact .inr (Nat.le_trans h0.size h))
 have hbx:=Lib.hid (⟨hbD,hbR,hbT,hfr⟩:_∧_∧_∧_)
 clear hDl hP hE hBH hbD hbR hbT hfr hRR hlm hcH hbc htc
 go_enter_d Tryz.func41,Tryz.ntmps41
 go_upto_region 1 with fail
 refine wp_region_rove (X:=Unit) () (fun x=>[(6,.pointer (some ⟨d,0,none⟩)),(7,.pointer (some ⟨d,0,none⟩)),(8,.pointer (some ⟨d,0,none⟩)),(9,.slice (some ⟨gP,0,none⟩) n cP),(10,.pointer (some ⟨d,0,none⟩)),(11,.pointer (some ⟨d,0,none⟩)),(12,.pointer (some ⟨d,1,none⟩)),(13,.slice (some ⟨gH,0,none⟩) m cH),(14,.int .i64 (r:Int)),(15,.pointer (some ((⟨gH,0,none⟩:Addr).add r))),(16,.int .i64 (c:Int)),(17,.pointer (some ((⟨gP,0,none⟩:Addr).add c))),(18,.pointer (some ⟨bc,0,none⟩)),(19,.int .i64 (r:Int)),(20,.int .i64 tc)])
  (fun x d W'=>SlC w R (d 14) W') (by kernel_rfl) (by kernel_rfl) (by kernel_rfl) (by kernel_rfl) (fun x=>by kernel_rfl)
  ⟨fun _=>(Mod.refl _ _).drew,fun h=>by cases h⟩ ?_ ?_
 ·intro aF hAF
  have E1:∀ x,(aF x).eval (.tmp 1) = .pointer (some ⟨bD,0,none⟩):=by intro x; rw [hAF]; kernel_rfl
  have E2:∀ x,(aF x).eval (.tmp 2) = .pointer (some ⟨bR,0,none⟩):=by intro x; rw [hAF]; kernel_rfl
  have T6:∀ x,(aF x).tmps[6]? = some (.pointer (some ⟨d,0,none⟩)):=by intro x; rw [hAF]; kernel_rfl
  have T7:∀ x,(aF x).tmps[7]? = some (.pointer (some ⟨d,0,none⟩)):=by intro x; rw [hAF]; kernel_rfl
  have T8:∀ x,(aF x).tmps[8]? = some (.pointer (some ⟨d,0,none⟩)):=by intro x; rw [hAF]; kernel_rfl
  have T9:∀ x,(aF x).tmps[9]? = some (.slice (some ⟨gP,0,none⟩) n cP):=by intro x; rw [hAF]; kernel_rfl
  have T10:∀ x,(aF x).tmps[10]? = some (.pointer (some ⟨d,0,none⟩)):=by intro x; rw [hAF]; kernel_rfl
  have T11:∀ x,(aF x).tmps[11]? = some (.pointer (some ⟨d,0,none⟩)):=by intro x; rw [hAF]; kernel_rfl
  have T12:∀ x,(aF x).tmps[12]? = some (.pointer (some ⟨d,1,none⟩)):=by intro x; rw [hAF]; kernel_rfl
  have T13:∀ x,(aF x).tmps[13]? = some (.slice (some ⟨gH,0,none⟩) m cH):=by intro x; rw [hAF]; kernel_rfl
  have T14:∀ x,(aF x).tmps[14]? = some (.int .i64 (r:Int)):=by intro x; rw [hAF]; kernel_rfl
  have T15:∀ x,(aF x).tmps[15]? = some (.pointer (some ((⟨gH,0,none⟩:Addr).add r))):=by intro x; rw [hAF]; kernel_rfl
  have T16:∀ x,(aF x).tmps[16]? = some (.int .i64 (c:Int)):=by intro x; rw [hAF]; kernel_rfl
  have T17:∀ x,(aF x).tmps[17]? = some (.pointer (some ((⟨gP,0,none⟩:Addr).add c))):=by intro x; rw [hAF]; kernel_rfl
  have T18:∀ x,(aF x).tmps[18]? = some (.pointer (some ⟨bc,0,none⟩)):=by intro x; rw [hAF]; kernel_rfl
  have T19:∀ x,(aF x).tmps[19]? = some (.int .i64 (r:Int)):=by intro x; rw [hAF]; kernel_rfl
  have T20:∀ x,(aF x).tmps[20]? = some (.int .i64 tc):=by intro x; rw [hAF]; kernel_rfl
  replace hAF:=Lib.hid hAF
  refine ⟨?_,?_,?_,?_,?_,?_,?_,?_,?_,?_,?_,?_,?_,?_,?_,trivial⟩
  ·exact opOk3_quietL _ (by intro x t hd _; cases hd; exact T6 x) (fun _=>rfl) fun x d w' hd hn hc=>sv (run_load1 rfl (E1 x) (hD.out _ (hc.1 (hn 14 (by kernel_rfl))))) hc
  ·exact oq T7 rfl rfl fun x d w' hd hc=>sv (run_nilP rfl (ev T6 x)) hc
  ·exact oq T8 rfl rfl fun x d w' hd hc=>sv (run_fldT rfl (ev T7 x) (fun _=>by kernel_rfl)) hc
  ·exact opOk3_quietL _ (by intro x t hd _; cases hd; exact T9 x) (fun _=>rfl) fun x d w' hd hn hc=>sv (run_load1 rfl (ev T8 x) (hPs.out _ (hc.1 (hn 14 (by kernel_rfl))))) hc
  ·exact opOk3_quietL _ (by intro x t hd _; cases hd; exact T10 x) (fun _=>rfl) fun x d w' hd hn hc=>sv (run_load1 rfl (E1 x) (hD.out _ (hc.1 (hn 14 (by kernel_rfl))))) hc
  ·exact oq T11 rfl rfl fun x d w' hd hc=>sv (run_nilP rfl (ev T10 x)) hc
  ·exact oq T12 rfl rfl fun x d w' hd hc=>sv (run_fldT rfl (ev T11 x) (fun _=>by kernel_rfl)) hc
  ·exact opOk3_quietL _ (by intro x t hd _; cases hd; exact T13 x) (fun _=>rfl) fun x d w' hd hn hc=>sv (run_load1 rfl (ev T12 x) (hHs.out _ (hc.1 (hn 14 (by kernel_rfl))))) hc
  ·exact opOk3_quietL _ (by intro x t hd _; cases hd; exact T14 x) (fun _=>rfl) fun x d w' hd hn hc=>sv (run_load1 rfl (E2 x) (hR.out _ (hc.1 (hn 14 (by kernel_rfl))))) hc
  ·exact oq T15 rfl rfl fun x d w' hd hc=>sv (run_ixIn rfl (ev T13 x) (ev T14 x) hrm) hc
  ·exact opOk3_quietL _ (by intro x t hd _; cases hd; exact T16 x) (fun _=>rfl) fun x d w' hd hn hc=>sv (run_load1 rfl (ev T15 x) (hO.out _ (hc.1 (hn 14 (by kernel_rfl))))) hc
  ·exact oq T17 rfl rfl fun x d w' hd hc=>sv (run_ixPl rfl (ev T9 x) (ev T16 x) hcn) hc
  ·exact opOk3_quietL _ (by intro x t hd _; cases hd; exact T18 x) (fun _=>rfl) fun x d w' hd hn hc=>sv (run_load1 rfl (ev T17 x) (hPt.out _ (hc.1 (hn 14 (by kernel_rfl))))) hc
  ·exact opOk3_quietL _ (by intro x t hd _; cases hd; exact T19 x) (fun _=>rfl) fun x d w' hd hn hc=>sv (run_load1 rfl (E2 x) (hR.out _ (hc.1 (hn 14 (by kernel_rfl))))) hc
  ·exact opOk3_loud rfl fun x d w' hd hn hc=>by
    have hdi:d 14 = false:=hn 14 (by kernel_rfl)
    refine sk (run_callTk rfl (ev T18 x) (ev T19 x)) ((htk.out w' (hc.1 hdi)).mono ?_)
    rintro e w'' ⟨rfl,hh⟩
    exact ⟨_,rfl,x,agree_same _ _,(by intro t hd _; cases hd; exact T20 x),(fun h=>by cases h),fun _=>⟨w',hc.1 hdi,hh⟩⟩
 ·intro x9 dn w' hd hc
  simp only [putAll,List.foldl_cons,List.foldl_nil,Act.put,List.setIfInBounds_toArray,List.set_cons_succ,List.set_cons_zero]
  obtain ⟨W0,hm0,hR2⟩:=hc.2 (hd 14 (by decide))
  obtain ⟨F',hF',hP',hDl',hmw⟩:=hst.out W0 w' hm0 hR2
  obtain ⟨hbD,hbR,hbT,f1,f2,f3⟩:=hbx.out
  obtain ⟨w2,hw2⟩:∃ w2,w' = w2:=⟨_,rfl⟩
  rw [hw2] at hP' hDl' hmw ⊢
  have hlm:=fun {wx:World} (hm:Mod (fun _=>False) w2 wx)=>hm.below (Nat.le_refl _) (fun _ h=>h.elim)
  have hD2:=Lib.hid (fun wx (hm:Mod (fun _=>False) w2 wx)=>run_cellDl (((hbD.mod hmw f1).mod hm (fun h=>h)).cell (i:=0) (v:=.pointer (some ⟨d,0,none⟩)) rfl))
  have hR2:=Lib.hid (fun wx (hm:Mod (fun _=>False) w2 wx)=>run_i64D (((hbR.mod hmw f2).mod hm (fun h=>h)).cell (i:=0) (v:=.int .i64 (r:Int)) rfl))
  have hT2:=Lib.hid (fun wx (hm:Mod (fun _=>False) w2 wx)=>run_i64D (((hbT.mod hmw f3).mod hm (fun h=>h)).cell (i:=0) (v:=.int .i64 tv) rfl))
  have hHs2:=Lib.hid (fun wx (hm:Mod (fun _=>False) w2 wx)=>(by
   have:=run_cellIs ((hDl'.below (hlm hm)).box.cell (i:=1) rfl)
   rename_i hmm
   rw [show H.length = m by assumption] at this
   exact this:(loadVar 35 ⟨d,1,none⟩).run Tryz.prog wx = .ok (.slice (some ⟨gH,0,none⟩) m cH) wx))
  have hO2:=Lib.hid (fun wx (hm:Mod (fun _=>False) w2 wx)=>(by
   obtain ⟨g2,e,hcell⟩:=(hDl'.below (hlm hm)).own hr
   cases e
   exact hcell:wx.cell? ((⟨gH,0,none⟩:Addr).add r) = some (.int .i64 (H.getD r 0))))
  have hF2:=Lib.hid (fun wx (hm:Mod (fun _=>False) w2 wx)=>(by
   obtain ⟨g2,C,e,hBx⟩:=(hDl'.below (hlm hm)).hb (fun e=>by rw [e] at hr; simp at hr)
   cases e
   rw [addr0P]
   exact hBx.froz r:wx.frozen? ((⟨gH,0,none⟩:Addr).add r) = false))
  have hfin:=Lib.hid (fun wx (hm:Mod (fun _=>False) w2 wx)=>(by
   obtain ⟨g1,g2⟩:=(hDl'.below (hlm hm)).give hr rfl tv
   have hne:∀ p ∈ L.set c { L.getD c pc0 with rows:=(ptakP (L.getD c pc0).rows (r:Int)).1,F:=F' },∀ k,k = gH→¬ p.F k:=fun p hp k hk hf=>by
    subst hk
    exact (hDl'.ap p hp).2.2 _ rfl (fun e=>by rw [e] at hr; simp at hr) hf
   exact ⟨{ L.getD c pc0 with rows:=(ptakP (L.getD c pc0).rows (r:Int)).1,F:=F' },⟨rfl,rfl,rfl,rfl⟩,hF',(hP'.below (hlm hm)).mod g2 hne,g1,((hmw.mono (fun _ _ h=>.inl h)).trans (hm.mono (fun _ _ h=>h.elim))).trans (g2.mono (fun k _ hk=>.inr ⟨_,rfl,hk⟩))⟩:
   S1Post B w t d L H gP cP (some ⟨gH,0,none⟩) cH c r tv (wx.setCell ((⟨gH,0,none⟩:Addr).add r) (.int .i64 tv))))
  clear hc hd hP' hDl' hmw hF' hbD hbR hbT f1 f2 f3 hm0 hst hbx hD hR hPs hHs hO hPt htk hw2 k0
  go_upto_region 2 with fail
  refine wp_region_rove (X:=Unit) () (fun x=>[(21,.pointer (some ⟨d,0,none⟩)),(22,.pointer (some ⟨d,0,none⟩)),(23,.pointer (some ⟨d,1,none⟩)),(24,.slice (some ⟨gH,0,none⟩) m cH),(25,.int .i64 (r:Int)),(26,.int .i64 tv),(27,.pointer (some ((⟨gH,0,none⟩:Addr).add r)))])
   (fun x d W'=>SlC w2 (fun W0 W=>W = W0.setCell ((⟨gH,0,none⟩:Addr).add r) (.int .i64 tv)) (d 7) W') (by kernel_rfl) (by kernel_rfl) (by kernel_rfl) (by kernel_rfl) (fun x=>by kernel_rfl)
   ⟨fun _=>(Mod.refl _ _).drew,fun h=>by cases h⟩ ?_ ?_
  ·intro aF hAF
   have E1:∀ x,(aF x).eval (.tmp 1) = .pointer (some ⟨bD,0,none⟩):=by intro x; rw [hAF]; kernel_rfl
   have E2:∀ x,(aF x).eval (.tmp 2) = .pointer (some ⟨bR,0,none⟩):=by intro x; rw [hAF]; kernel_rfl
   have E3:∀ x,(aF x).eval (.tmp 3) = .pointer (some ⟨bT,0,none⟩):=by intro x; rw [hAF]; kernel_rfl
   have T21:∀ x,(aF x).tmps[21]? = some (.pointer (some ⟨d,0,none⟩)):=by intro x; rw [hAF]; kernel_rfl
   have T22:∀ x,(aF x).tmps[22]? = some (.pointer (some ⟨d,0,none⟩)):=by intro x; rw [hAF]; kernel_rfl
   have T23:∀ x,(aF x).tmps[23]? = some (.pointer (some ⟨d,1,none⟩)):=by intro x; rw [hAF]; kernel_rfl
   have T24:∀ x,(aF x).tmps[24]? = some (.slice (some ⟨gH,0,none⟩) m cH):=by intro x; rw [hAF]; kernel_rfl
   have T25:∀ x,(aF x).tmps[25]? = some (.int .i64 (r:Int)):=by intro x; rw [hAF]; kernel_rfl
   have T26:∀ x,(aF x).tmps[26]? = some (.int .i64 tv):=by intro x; rw [hAF]; kernel_rfl
   have T27:∀ x,(aF x).tmps[27]? = some (.pointer (some ((⟨gH,0,none⟩:Addr).add r))):=by intro x; rw [hAF]; kernel_rfl
   replace hAF:=Lib.hid hAF
   refine ⟨?_,?_,?_,?_,?_,?_,?_,?_,trivial⟩
   ·exact opOk3_quietL _ (by intro x t hd _; cases hd; exact T21 x) (fun _=>rfl) fun x d w' hd hn hc=>sv (run_load1 rfl (E1 x) (hD2.out _ (hc.1 (hn 7 (by kernel_rfl))))) hc
   ·exact oq T22 rfl rfl fun x d w' hd hc=>sv (run_nilP rfl (ev T21 x)) hc
   ·exact oq T23 rfl rfl fun x d w' hd hc=>sv (run_fldT rfl (ev T22 x) (fun _=>by kernel_rfl)) hc
   ·exact opOk3_quietL _ (by intro x t hd _; cases hd; exact T24 x) (fun _=>rfl) fun x d w' hd hn hc=>sv (run_load1 rfl (ev T23 x) (hHs2.out _ (hc.1 (hn 7 (by kernel_rfl))))) hc
   ·exact opOk3_quietL _ (by intro x t hd _; cases hd; exact T25 x) (fun _=>rfl) fun x d w' hd hn hc=>sv (run_load1 rfl (E2 x) (hR2.out _ (hc.1 (hn 7 (by kernel_rfl))))) hc
   ·exact opOk3_quietL _ (by intro x t hd _; cases hd; exact T26 x) (fun _=>rfl) fun x d w' hd hn hc=>sv (run_load1 rfl (E3 x) (hT2.out _ (hc.1 (hn 7 (by kernel_rfl))))) hc
   ·exact oq T27 rfl rfl fun x d w' hd hc=>sv (run_ixIn rfl (ev T24 x) (ev T25 x) hrm) hc
   ·exact opOk3_loud rfl fun x d w' hd hn hc=>by
     have hdi:d 7 = false:=hn 7 (by kernel_rfl)
     refine sk_s (run_storeI rfl (ev T27 x) (ev T26 x) (hO2.out w' (hc.1 hdi)) (hF2.out w' (hc.1 hdi))) ⟨x,agree_same _ _,(by intro t hd _; cases hd),(fun h=>by cases h),fun _=>⟨w',hc.1 hdi,rfl⟩⟩
  ·intro x9 dn w' hd hc
   simp only [putAll,List.foldl_cons,List.foldl_nil,Act.put,List.setIfInBounds_toArray,List.set_cons_succ,List.set_cons_zero]
   obtain ⟨W1,hm1,e1⟩:=hc.2 (hd 7 (by decide))
   have hf:=hfin.out W1 hm1
   rw [← e1] at hf
   replace hf:=Lib.hid hf
   clear hc hd e1 hm1 hfin hD2 hR2 hT2 hHs2 hO2 hF2
   go_wp2_with fail
   go_end0
   exact ⟨rfl,hf.out⟩
theorem res_tcD {P:Program} {fn:Func} {p q:Tmp} {ty:TypeId} (h:fn.results = #[.tmp p,.cell q ty]) {tmps:Array Value} {w:World} {g:Nat} {v:Value}
  (hp:tmps.getD q undef = .pointer (some ⟨g,0,none⟩)) (hrun:(loadVar ty ⟨g,0,none⟩).run P w = .ok v w):
  (results fn tmps).run P w = .ok (.tuple #[tmps.getD p undef,v]) w:=by
 have hp':tmps[q]?.getD undef = .pointer (some ⟨g,0,none⟩):=by simpa using hp
 simp [results,h,hp',asAddr,hrun]
theorem run_cellEr {p:Addr} {n:Int} (h:w.cell? p = some (.int .i64 n)):(loadVar 41 p).run Tryz.prog w = .ok (.int .i64 n) w:=by go_simp
def sellR (t:List Rq) (L:List Pc) (h cT:Nat) (r:Int) (i:Nat):List Rou2:=
 if (pputP (L.getD cT pc0).fl (L.getD cT pc0).rows t r).2.2 ≠ 0 then (L.getD i pc0).rows
 else if i = cT then (pputP (L.getD cT pc0).fl (L.getD cT pc0).rows t r).1 else if i = h then (ptakP (L.getD i pc0).rows r).1 else (L.getD i pc0).rows
def SoldPost (B:Nat) (w:World) (t:List Rq) (d:Nat) (L:List Pc) (H:List Int) (gP cP:Nat) (qH:Option Addr) (cH h cT r:Nat) (e:Ending) (w':World):Prop:=
 e = .returned (.tuple #[.int .i64 (pputP (L.getD cT pc0).fl (L.getD cT pc0).rows t (r:Int)).2.1,.int .i64 (pputP (L.getD cT pc0).fl (L.getD cT pc0).rows t (r:Int)).2.2])∧
  ∃ L':List Pc,PcsAt B w' t L'∧DlIn w' d L' (if (pputP (L.getD cT pc0).fl (L.getD cT pc0).rows t (r:Int)).2.2 ≠ 0 then H else H.set r (cT:Int)) gP cP qH cH∧L'.length = L.length∧
   (∀ i,i < L.length→((L'.getD i pc0).b = (L.getD i pc0).b∧(L'.getD i pc0).fl = (L.getD i pc0).fl∧(L'.getD i pc0).N≤(L.getD i pc0).N + 1)∧(L'.getD i pc0).rows = sellR t L h cT (r:Int) i∧∀ k,(L'.getD i pc0).F k→(L.getD i pc0).F k∨w.heap.size≤k)∧
   Mod (fun k=>(∃ i,i < L.length∧(L.getD i pc0).F k)∨∃ a,qH = some a∧k = a.block) w w'
theorem getD_setP (L:List Pc) {i j:Nat} (p:Pc) (hi:i < L.length):(L.set i p).getD j pc0 = if i = j then p else L.getD j pc0:=by
 rw [getD_setS]
 by_cases e:i = j
 ·rw [if_pos ⟨e,hi⟩,if_pos e]
 ·rw [if_neg (fun h=>e h.1),if_neg e]
theorem dsell_go (hDl:DlIn w d L H gP cP qH cH) (hP:PcsAt B w t L) (hB:B≤w.heap.size) {r h c:Nat} (hr:r < H.length) (hc:c < L.length) (hh:h < L.length) (hhH:H.getD r 0 = (h:Int)) (hne:h ≠ c) (hN:(L.getD c pc0).N < 1000000):
  Calls Tryz.prog 16 #[.pointer (some ⟨d,0,none⟩),.int .i64 (r:Int),.int .i64 (c:Int)] w (SoldPost B w t d L H gP cP qH cH h c r):=by
 have hmf:∀ (fn:Fn) (first cap:Array Value) (w:World),(Instr.makeFunc fn first cap).run Tryz.prog w = .ok (.func fn first cap) w:=fun _ _ _ _=>rfl
 obtain ⟨gH,CH,hqH,hBH⟩:=hDl.hb (fun e=>by rw [e] at hr; simp at hr)
 subst hqH
 have hr64:r < 64:=by have:=hDl.many.2; omega
 have hc8:c < 8:=by have:=hDl.many.1; omega
 have hb0:=((new_below w (.cells #[.pointer (some ⟨d,0,none⟩)] 31)).alloc (by simp) (.cells #[.int .i64 (r:Int)] 3)).alloc (by simp; omega) (.cells #[.int .i64 (c:Int)] 3) |>.alloc (by simp; omega) (.cells #[.int .i64 0] 41)
 obtain ⟨n,hn⟩:∃ n,L.length = n:=⟨_,rfl⟩
 obtain ⟨m,hm⟩:∃ m,H.length = m:=⟨_,rfl⟩
 have hcn:c < n:=by omega
 have hrm:r < m:=by omega
 have hr0:¬ (r:Int) < 0:=by omega
 have hrmI:¬ (m:Int)≤(r:Int):=by omega
 have hrmJ:(r:Int) < (m:Int):=by omega
 have hc0:(0:Int)≤(c:Int):=by omega
 have hcnI:(c:Int) < (n:Int):=by omega
 have hhc:((h:Int) == (c:Int)) = false:=beq_eq_false_iff_ne.2 (by omega)
 go_enter_defers Tryz.func16,Tryz.ntmps16
 go_upto_region 1 with fail
 refine wp_world' (fun wx=>Blk wx w.heap.size #[.pointer (some ⟨d,0,none⟩)] 31∧Blk wx (w.heap.size + 1) #[.int .i64 (r:Int)] 3∧Blk wx (w.heap.size + 2) #[.int .i64 (c:Int)] 3∧Blk wx (w.heap.size + 3) #[.int .i64 0] 41∧Below w.heap.size w wx)
  ⟨(((Blk.new _ _ _).alloc _).alloc _).alloc _,((blk_newAtC (by simp) _ _).alloc _).alloc _,(blk_newAtC (by simp) _ _).alloc _,blk_newAtC (by simp) _ _,hb0⟩ ?_
 rintro w1 ⟨k1,k2,k3,k4,hb⟩
 generalize hbD:w.heap.size = bD at *
 have hD:=Lib.hid (fun wx (hm:Mod (fun _=>False) w1 wx)=>run_cellDl ((k1.mod hm (fun h=>h)).cell (i:=0) (v:=.pointer (some ⟨d,0,none⟩)) rfl))
 have hR:=Lib.hid (fun wx (hm:Mod (fun _=>False) w1 wx)=>run_i64D ((k2.mod hm (fun h=>h)).cell (i:=0) (v:=.int .i64 (r:Int)) rfl))
 have hT:=Lib.hid (fun wx (hm:Mod (fun _=>False) w1 wx)=>run_i64D ((k3.mod hm (fun h=>h)).cell (i:=0) (v:=.int .i64 (c:Int)) rfl))
 have hbl:=fun {wx:World} (hm:Mod (fun _=>False) w1 wx)=>(show Below w.heap.size w wx from by rw [hbD]; exact hb.trans (hm.below (by rw [← hbD]; exact hb.size) (fun _ h=>h.elim)))
 have hPs:=Lib.hid (fun wx (hm:Mod (fun _=>False) w1 wx)=>(by
  have:=run_cellPs ((hDl.below (hbl hm)).box.cell (i:=0) rfl)
  rw [hn] at this
  exact this:(loadVar 30 ⟨d,0,none⟩).run Tryz.prog wx = .ok (.slice (some ⟨gP,0,none⟩) n cP) wx))
 have hHs:=Lib.hid (fun wx (hmm:Mod (fun _=>False) w1 wx)=>(by
  have:=run_cellIs ((hDl.below (hbl hmm)).box.cell (i:=1) rfl)
  rw [hm] at this
  exact this:(loadVar 35 ⟨d,1,none⟩).run Tryz.prog wx = .ok (.slice (some ⟨gH,0,none⟩) m cH) wx))
 have hO:=Lib.hid (fun wx (hm:Mod (fun _=>False) w1 wx)=>(by
  obtain ⟨g2,e,hcell⟩:=(hDl.below (hbl hm)).own hr
  cases e
  rw [hhH] at hcell
  exact run_i64D hcell:(loadVar 3 ((⟨gH,0,none⟩:Addr).add r)).run Tryz.prog wx = .ok (.int .i64 (h:Int)) wx))
 have his:=Lib.hid (fun wx (hm:Mod (fun _=>False) w1 wx)=>(by
  have:=dis_calls (hDl.below (hbl hm)) (c:Int)
  rw [hn,decide_eq_true ⟨hc0,hcnI⟩] at this
  exact this:Calls Tryz.prog 33 #[.pointer (some ⟨d,0,none⟩),.int .i64 (c:Int)] wx fun e w'=>e = .returned (.bool true)∧wx = w'))
 have hkeep:=Lib.hid (⟨hDl,hP,k1,k2,k3,k4,hb,hBH⟩:_∧_∧_∧_∧_∧_∧_∧_)
 have hld1:=Lib.hid (hD.out w1 (Mod.refl _ _))
 clear hDl hP k1 k2 k3 k4 hb hBH hbl hb0
 replace hbD:=Lib.hid hbD
 go_upto_region 3 with (refine wpList_load_v rfl 31 _ rfl ⟨bD,0,none⟩ rfl _ hld1.out ?_)
 refine wp_region_later (w0:=w1) (S:=fun _=>False) (Mod.refl _ _) (by kernel_rfl) (by kernel_rfl) ?_
 refine wpQuiet_v rfl (.int .i64 (r:Int)) (by rintro _ ⟨z,rfl⟩; exact run_load_v rfl rfl (hR.out _ z.mod)) ?_
 simp only [Act.put,List.setIfInBounds_toArray,List.set_cons_succ,List.set_cons_zero]
 go_big_quiet_step (fail)
 go_big_quiet_step (fail)
 refine wpQuiet_v rfl (.int .i64 (r:Int)) (by rintro _ ⟨z,rfl⟩; exact run_load_v rfl rfl (hR.out _ z.mod)) ?_
 simp only [Act.put,List.setIfInBounds_toArray,List.set_cons_succ,List.set_cons_zero]
 refine wpQuiet_v rfl (.pointer (some ⟨d,0,none⟩)) (by rintro _ ⟨z,rfl⟩; exact run_load_v rfl rfl (hD.out _ z.mod)) ?_
 simp only [Act.put,List.setIfInBounds_toArray,List.set_cons_succ,List.set_cons_zero]
 go_big_quiet_step (fail)
 go_big_quiet_step (fail)
 refine wpQuiet_v rfl (.slice (some ⟨gH,0,none⟩) m cH) (by rintro _ ⟨z,rfl⟩; exact run_load_v rfl rfl (hHs.out _ z.mod)) ?_
 simp only [Act.put,List.setIfInBounds_toArray,List.set_cons_succ,List.set_cons_zero]
 repeat (go_big_quiet_step (fail))
 refine wpQuiet_nil ?_
 rintro _ ⟨z,rfl⟩
 have hz1:=Lib.hid z.mod
 generalize z.val = w2 at *
 have hld2:=Lib.hid (hD.out w2 hz1.out)
 have hld3:=Lib.hid (hT.out w2 hz1.out)
 have hi2:=Lib.hid (his.out w2 hz1.out)
 go_wp2_with (first | (refine wpList_load_v rfl 31 _ rfl ⟨bD,0,none⟩ rfl _ hld2.out ?_) | (refine wpList_load_v rfl 3 _ rfl ⟨bD + 1 + 1,0,none⟩ rfl _ hld3.out ?_))
 refine hi2.out.mono ?_
 rintro e w3 ⟨rfl,rfl⟩
 clear hi2 hld2 hld3 his hld1
 go_upto_region 7 with fail
 refine wp_region_later (w0:=w2) (S:=fun _=>False) (Mod.refl _ _) (by kernel_rfl) (by kernel_rfl) ?_
 refine wpQuiet_v rfl (.pointer (some ⟨d,0,none⟩)) (by rintro _ ⟨z,rfl⟩; exact run_load_v rfl rfl (hD.out _ (hz1.out.trans z.mod))) ?_
 simp only [Act.put,List.setIfInBounds_toArray,List.set_cons_succ,List.set_cons_zero]
 go_big_quiet_step (fail)
 go_big_quiet_step (fail)
 refine wpQuiet_v rfl (.slice (some ⟨gH,0,none⟩) m cH) (by rintro _ ⟨z,rfl⟩; exact run_load_v rfl rfl (hHs.out _ (hz1.out.trans z.mod))) ?_
 simp only [Act.put,List.setIfInBounds_toArray,List.set_cons_succ,List.set_cons_zero]
 refine wpQuiet_v rfl (.int .i64 (r:Int)) (by rintro _ ⟨z,rfl⟩; exact run_load_v rfl rfl (hR.out _ (hz1.out.trans z.mod))) ?_
 simp only [Act.put,List.setIfInBounds_toArray,List.set_cons_succ,List.set_cons_zero]
 refine wpQuiet_v rfl (.pointer (some ((⟨gH,0,none⟩:Addr).add r))) (by rintro _ ⟨z,rfl⟩; exact run_ixIn (k:=r) rfl rfl rfl hrm) ?_
 simp only [Act.put,List.setIfInBounds_toArray,List.set_cons_succ,List.set_cons_zero]
 refine wpQuiet_v rfl (.int .i64 (h:Int)) (by rintro _ ⟨z,rfl⟩; exact run_load_v rfl rfl (hO.out _ (hz1.out.trans z.mod))) ?_
 simp only [Act.put,List.setIfInBounds_toArray,List.set_cons_succ,List.set_cons_zero]
 refine wpQuiet_v rfl (.int .i64 (c:Int)) (by rintro _ ⟨z,rfl⟩; exact run_load_v rfl rfl (hT.out _ (hz1.out.trans z.mod))) ?_
 simp only [Act.put,List.setIfInBounds_toArray,List.set_cons_succ,List.set_cons_zero]
 repeat (go_big_quiet_step (fail))
 refine wpQuiet_nil ?_
 rintro _ ⟨z,rfl⟩
 have hz5:=Lib.hid (hz1.out.trans z.mod)
 generalize z.val = w5 at *
 clear hz1 hHs hO
 obtain ⟨hDl,hP,k1,k2,k3,k4,hb,hBH⟩:=hkeep.out
 have hbl:=fun {wx:World} (hm:Mod (fun _=>False) w1 wx)=>(show Below w.heap.size w wx from by rw [hbD.out]; exact hb.trans (hm.below (by rw [← hbD.out]; exact hb.size) (fun _ h=>h.elim)))
 have ho:=(hP.get hc).own
 have hgT:(L.getD c pc0).gT < bD:=by rw [← hbD.out]; exact ho.2.2.2 _ ho.2.1
 have hgM:(L.getD c pc0).gM < bD:=by rw [← hbD.out]; exact ho.2.2.2 _ ho.2.2.1
 replace hD:=Lib.hid (fun wx (hm:Mod (fun _=>False) w5 wx)=>hD.out wx (hz5.out.trans hm))
 replace hR:=Lib.hid (fun wx (hm:Mod (fun _=>False) w5 wx)=>hR.out wx (hz5.out.trans hm))
 replace hT:=Lib.hid (fun wx (hm:Mod (fun _=>False) w5 wx)=>hT.out wx (hz5.out.trans hm))
 replace hPs:=Lib.hid (fun wx (hm:Mod (fun _=>False) w5 wx)=>hPs.out wx (hz5.out.trans hm))
 obtain ⟨bc,hbc⟩:∃ bc,(L.getD c pc0).b = bc:=⟨_,rfl⟩
 have hPt:=Lib.hid (fun wx (hm:Mod (fun _=>False) w5 wx)=>(by
  have:=run_cellPl ((hDl.below (hbl (hz5.out.trans hm))).ptr hc)
  rw [hbc] at this
  exact this:(loadVar 42 ((⟨gP,0,none⟩:Addr).add c)).run Tryz.prog wx = .ok (.pointer (some ⟨bc,0,none⟩)) wx))
 obtain ⟨Rw,z1,z2,hpp⟩:∃ Rw z1 z2,pputP (L.getD c pc0).fl (L.getD c pc0).rows t (r:Int) = (Rw,z1,z2):=⟨_,_,_,rfl⟩
 obtain ⟨R,hRR⟩:∃ R:World→World→Prop,R = fun W0 W=>Mod (fun k=>k = (L.getD c pc0).gT∨k = (L.getD c pc0).gM) W0 W∧∃ F',(∀ k,F' k→(L.getD c pc0).F k∨W0.heap.size≤k)∧PcsAt B W t (L.set c { L.getD c pc0 with N:=(L.getD c pc0).N + 1,rows:=Rw,F:=F' }):=⟨_,rfl⟩
 have hpu:=Lib.hid (fun wx (hm:Mod (fun _=>False) w5 wx)=>(by
  have:=(hP.below (hbl (hz5.out.trans hm))).put (Nat.le_trans (by rw [hbD.out]; exact hB) (hbl (hz5.out.trans hm)).size) hc hN (r:Int) (by unfold wf64; omega)
  rw [hpp,hbc] at this
  rw [hRR]
  exact this:Calls Tryz.prog 11 #[.pointer (some ⟨bc,0,none⟩),.int .i64 (r:Int)] wx fun e w'=>e = .returned (.tuple #[.int .i64 z1,.int .i64 z2])∧R wx w'))
 have hBE:=fun W1 (hx:∃ W0,Mod (fun _=>False) w5 W0∧R W0 W1)=>(by
  obtain ⟨W0,h0,h1⟩:=hx
  rw [hRR] at h1
  exact (k4.mod (hz5.out.trans h0) (fun h=>h)).mod h1.1 (by omega):Blk W1 (bD + 1 + 1 + 1) #[.int .i64 0] 41)
 have hEc:=Lib.hid (fun W1 (hx:∃ W0,Mod (fun _=>False) w5 W0∧R W0 W1)=>(hBE W1 hx).cell (i:=0) rfl)
 have hEf:=Lib.hid (fun W1 (hx:∃ W0,Mod (fun _=>False) w5 W0∧R W0 W1)=>(hBE W1 hx).froz 0)
 have hfin:=Lib.hid (fun W1 (hx:∃ W0,Mod (fun _=>False) w5 W0∧R W0 W1)=>(by
  have hE1:=hBE W1 hx
  obtain ⟨W0,h0,h1⟩:=hx
  rw [hRR] at h1
  obtain ⟨h1,F',hF,hP1⟩:=h1
  have hA:=hz5.out.trans h0
  have hbA:=hbl hA
  have hD1:=(hDl.below hbA).turn (hP.below hbA) hc h1 (p:={ L.getD c pc0 with N:=(L.getD c pc0).N + 1,rows:=Rw,F:=F' }) rfl hF
  have hmE:=(Mod.refl (· = bD + 1 + 1 + 1) W1).setCell (p:=⟨bD + 1 + 1 + 1,0,none⟩) (fun _=>rfl) (.int .i64 z2)
  have hsz0:bD + 1 + 1 + 1 < W0.heap.size:=(k4.mod hA (fun h=>h)).lt
  have hapF:∀ p ∈ L.set c { L.getD c pc0 with N:=(L.getD c pc0).N + 1,rows:=Rw,F:=F' },∀ k,bD≤k→k < W0.heap.size→¬ p.F k:=fun p hp k hk1 hk2 hf=>by
   rcases List.mem_or_eq_of_mem_set hp with hp | rfl
   ·have:=(hP.at_ p hp).own.2.2.2 k hf
    rw [hbD.out] at this
    omega
   ·rcases hF k hf with hf | hf
    ·have:=ho.2.2.2 k hf
     rw [hbD.out] at this
     omega
    ·omega
  have hdb:d < bD:=by rw [← hbD.out]; exact hDl.lt.1
  have hgb:gP < bD:=by rw [← hbD.out]; exact hDl.lt.2
  have hHb:gH < bD:=by rw [← hbD.out]; exact hBH.lt
  refine ⟨{ L.getD c pc0 with N:=(L.getD c pc0).N + 1,rows:=Rw,F:=F' },⟨rfl,rfl,rfl,rfl⟩,fun k hk=>?_,hP1.mod hmE (fun p hp k hk=>by subst hk; exact hapF p hp _ (by omega) hsz0),hD1.mod hmE (by omega) (by omega) (fun a ha _=>by cases ha; simp only; omega),hE1.set 0 (.int .i64 z2),((k1.mod hA (fun h=>h)).mod h1 (by omega)).mod hmE (by omega),((k2.mod hA (fun h=>h)).mod h1 (by omega)).mod hmE (by omega),((k3.mod hA (fun h=>h)).mod h1 (by omega)).mod hmE (by omega),?_,fun k hk1 hk2=>?_⟩
  ·rcases hF k hk with h | h
   ·exact .inl h
   ·refine .inr ?_
    rw [hbD.out]
    omega
  ·exact (((Mod.refl (fun k=>(∃ i,i < L.length∧(L.getD i pc0).F k)∨∃ a,some (⟨gH,0,none⟩:Addr) = some a∧k = a.block) w).after hbA).trans (h1.mono (fun k _ hk=>.inl ⟨c,hc,by rcases hk with rfl | rfl; exact ho.2.1; exact ho.2.2.1⟩))).setCell (p:=⟨bD + 1 + 1 + 1,0,none⟩) (fun hlt=>by rw [hbD.out] at hlt; simp only at hlt; omega) (.int .i64 z2)
  ·intro i hi
   exact hapF _ (mem_getD (by rw [List.length_set]; exact hi)) k hk1 (by omega):
  ∃ p1:Pc,(p1.b = (L.getD c pc0).b∧p1.fl = (L.getD c pc0).fl∧p1.N = (L.getD c pc0).N + 1∧p1.rows = Rw)∧(∀ k,p1.F k→(L.getD c pc0).F k∨w.heap.size≤k)∧PcsAt B (W1.setCell ⟨bD + 1 + 1 + 1,0,none⟩ (.int .i64 z2)) t (L.set c p1)∧
   DlIn (W1.setCell ⟨bD + 1 + 1 + 1,0,none⟩ (.int .i64 z2)) d (L.set c p1) H gP cP (some ⟨gH,0,none⟩) cH∧
   Blk (W1.setCell ⟨bD + 1 + 1 + 1,0,none⟩ (.int .i64 z2)) (bD + 1 + 1 + 1) #[.int .i64 z2] 41∧Blk (W1.setCell ⟨bD + 1 + 1 + 1,0,none⟩ (.int .i64 z2)) bD #[.pointer (some ⟨d,0,none⟩)] 31∧
   Blk (W1.setCell ⟨bD + 1 + 1 + 1,0,none⟩ (.int .i64 z2)) (bD + 1) #[.int .i64 (r:Int)] 3∧Blk (W1.setCell ⟨bD + 1 + 1 + 1,0,none⟩ (.int .i64 z2)) (bD + 1 + 1) #[.int .i64 (c:Int)] 3∧
   Mod (fun k=>(∃ i,i < L.length∧(L.getD i pc0).F k)∨∃ a,some (⟨gH,0,none⟩:Addr) = some a∧k = a.block) w (W1.setCell ⟨bD + 1 + 1 + 1,0,none⟩ (.int .i64 z2))∧
   ∀ k,bD≤k→k < bD + 1 + 1 + 1 + 1→∀ i,i < L.length→¬ ((L.set c p1).getD i pc0).F k))
 have hgHs:=Lib.hid hBH.lt
 have hokc:=Lib.hid (hP.get hc).2.1
 clear hDl hP k1 k2 k3 k4 hb hBH hbl hBE hRR
 go_upto_region 10 with fail
 refine wp_region_rove (X:=Unit) () (fun x=>[(39,.pointer (some ⟨d,0,none⟩)),(40,.pointer (some ⟨d,0,none⟩)),(41,.pointer (some ⟨d,0,none⟩)),(42,.slice (some ⟨gP,0,none⟩) n cP),(43,.int .i64 (c:Int)),(44,.pointer (some ((⟨gP,0,none⟩:Addr).add c))),(45,.pointer (some ⟨bc,0,none⟩)),(46,.int .i64 (r:Int)),(47,.tuple #[.int .i64 z1,.int .i64 z2]),(48,.int .i64 z1),(49,.int .i64 z2),(6,.int .i64 z1)])
  (fun x d W'=>SlE w5 R ⟨bD + 1 + 1 + 1,0,none⟩ (.int .i64 z2) (d 8) (d 12) W') (by kernel_rfl) (by kernel_rfl) (by kernel_rfl) (by kernel_rfl) (fun x=>by kernel_rfl)
  ⟨fun _=>(Mod.refl _ _).drew,fun h=>by cases h⟩ ?_ ?_
 ·intro aF hAF
  have E3:∀ x,(aF x).eval (.tmp 3) = .pointer (some ⟨bD,0,none⟩):=by intro x; rw [hAF]; kernel_rfl
  have E4:∀ x,(aF x).eval (.tmp 4) = .pointer (some ⟨bD + 1,0,none⟩):=by intro x; rw [hAF]; kernel_rfl
  have E5:∀ x,(aF x).eval (.tmp 5) = .pointer (some ⟨bD + 1 + 1,0,none⟩):=by intro x; rw [hAF]; kernel_rfl
  have E7:∀ x,(aF x).eval (.tmp 7) = .pointer (some ⟨bD + 1 + 1 + 1,0,none⟩):=by intro x; rw [hAF]; kernel_rfl
  have T39:∀ x,(aF x).tmps[39]? = some (.pointer (some ⟨d,0,none⟩)):=by intro x; rw [hAF]; kernel_rfl
  have T40:∀ x,(aF x).tmps[40]? = some (.pointer (some ⟨d,0,none⟩)):=by intro x; rw [hAF]; kernel_rfl
  have T41:∀ x,(aF x).tmps[41]? = some (.pointer (some ⟨d,0,none⟩)):=by intro x; rw [hAF]; kernel_rfl
  have T42:∀ x,(aF x).tmps[42]? = some (.slice (some ⟨gP,0,none⟩) n cP):=by intro x; rw [hAF]; kernel_rfl
  have T43:∀ x,(aF x).tmps[43]? = some (.int .i64 (c:Int)):=by intro x; rw [hAF]; kernel_rfl
  have T44:∀ x,(aF x).tmps[44]? = some (.pointer (some ((⟨gP,0,none⟩:Addr).add c))):=by intro x; rw [hAF]; kernel_rfl
  have T45:∀ x,(aF x).tmps[45]? = some (.pointer (some ⟨bc,0,none⟩)):=by intro x; rw [hAF]; kernel_rfl
  have T46:∀ x,(aF x).tmps[46]? = some (.int .i64 (r:Int)):=by intro x; rw [hAF]; kernel_rfl
  have T47:∀ x,(aF x).tmps[47]? = some (.tuple #[.int .i64 z1,.int .i64 z2]):=by intro x; rw [hAF]; kernel_rfl
  have T48:∀ x,(aF x).tmps[48]? = some (.int .i64 z1):=by intro x; rw [hAF]; kernel_rfl
  have T49:∀ x,(aF x).tmps[49]? = some (.int .i64 z2):=by intro x; rw [hAF]; kernel_rfl
  have T6:∀ x,(aF x).tmps[6]? = some (.int .i64 z1):=by intro x; rw [hAF]; kernel_rfl
  replace hAF:=Lib.hid hAF
  refine ⟨?_,?_,?_,?_,?_,?_,?_,?_,?_,?_,?_,?_,?_,trivial⟩
  ·exact opOk3_quietL _ (by intro x t hd _; cases hd; exact T39 x) (fun _=>rfl) fun x d w' hd hn hc=>sv (run_load1 rfl (E3 x) (hD.out _ (hc.1 (hn 8 (by kernel_rfl))))) hc
  ·exact oq T40 rfl rfl fun x d w' hd hc=>sv (run_nilP rfl (ev T39 x)) hc
  ·exact oq T41 rfl rfl fun x d w' hd hc=>sv (run_fldT rfl (ev T40 x) (fun _=>by kernel_rfl)) hc
  ·exact opOk3_quietL _ (by intro x t hd _; cases hd; exact T42 x) (fun _=>rfl) fun x d w' hd hn hc=>sv (run_load1 rfl (ev T41 x) (hPs.out _ (hc.1 (hn 8 (by kernel_rfl))))) hc
  ·exact opOk3_quietL _ (by intro x t hd _; cases hd; exact T43 x) (fun _=>rfl) fun x d w' hd hn hc=>sv (run_load1 rfl (E5 x) (hT.out _ (hc.1 (hn 8 (by kernel_rfl))))) hc
  ·exact oq T44 rfl rfl fun x d w' hd hc=>sv (run_ixPl rfl (ev T42 x) (ev T43 x) hcn) hc
  ·exact opOk3_quietL _ (by intro x t hd _; cases hd; exact T45 x) (fun _=>rfl) fun x d w' hd hn hc=>sv (run_load1 rfl (ev T44 x) (hPt.out _ (hc.1 (hn 8 (by kernel_rfl))))) hc
  ·exact opOk3_quietL _ (by intro x t hd _; cases hd; exact T46 x) (fun _=>rfl) fun x d w' hd hn hc=>sv (run_load1 rfl (E4 x) (hR.out _ (hc.1 (hn 8 (by kernel_rfl))))) hc
  ·exact opOk3_loud rfl fun x d w' hd hn hc=>by
    have hdi:d 8 = false:=hn 8 (by kernel_rfl)
    refine sk (run_callPu rfl (ev T45 x) (ev T46 x)) ((hpu.out w' (hc.1 hdi)).mono ?_)
    rintro e w'' ⟨rfl,hh⟩
    have n12:d 12 = false:=hn 12 (by kernel_rfl)
    exact ⟨_,rfl,x,agree_same _ _,(by intro t hd _; cases hd; exact T47 x),(fun h=>by cases h),fun _=>⟨w'',⟨w',hc.1 hdi,hh⟩,by show w'' = bif d 12 then _ else w''; rw [n12]; rfl⟩⟩
  ·exact oq T48 rfl rfl fun x d w' hd hc=>sv (run_ext rfl (ev T47 x) rfl) hc
  ·exact oq T49 rfl rfl fun x d w' hd hc=>sv (run_ext rfl (ev T47 x) rfl) hc
  ·exact oq T6 rfl rfl fun x d w' hd hc=>sv (run_asg rfl (ev T48 x)) hc
  ·exact opOk3_loud rfl fun x d w' hd hn hc=>by
    have n8:d 8 = true:=hd 8 (by kernel_rfl)
    have hdi:d 12 = false:=hn 12 (by kernel_rfl)
    obtain ⟨w1,h1,e1⟩:=hc.2 n8
    rw [hdi] at e1
    obtain rfl:w' = w1:=e1
    refine sk_s (run_storeE rfl (E7 x) (ev T49 x) (hEc.out w' h1) (hEf.out w' h1)) ⟨x,agree_same _ _,(by intro t hd _; cases hd),fun h=>?_,fun _=>⟨w',h1,rfl⟩⟩
    have:d 8 = false:=h
    rw [n8] at this
    cases this
 ·intro x9 dn w' hd hc
  simp only [putAll,List.foldl_cons,List.foldl_nil,Act.put,List.setIfInBounds_toArray,List.set_cons_succ,List.set_cons_zero]
  obtain ⟨W1,hx,e1⟩:=hc.2 (hd 8 (by decide))
  rw [hd 12 (by decide)] at e1
  replace e1:w' = W1.setCell ⟨bD + 1 + 1 + 1,0,none⟩ (.int .i64 z2):=e1
  have hf:=hfin.out W1 hx
  rw [← e1] at hf
  replace hf:=Lib.hid hf
  clear hc hd hx e1 hfin hD hR hT hPs hPt hpu hEc hEf
  go_wp2_with fail
  refine leaves_cons (f:=41) (args:=#[.pointer (some ⟨bD + 1 + 1 + 1,0,none⟩),.pointer (some ⟨bD,0,none⟩),.pointer (some ⟨bD + 1,0,none⟩),.pointer (some ⟨bD + 1 + 1,0,none⟩)]) (by simp) (by simp [go_sem]) ?_
  obtain ⟨p1,⟨u1,u2,u3,u4⟩,hF',hP1,hD1,hE1,hB1,hB2,hB3,hm1,hap⟩:=hf.out
  have hg1:∀ i,(L.set c p1).getD i pc0 = if c = i then p1 else L.getD i pc0:=fun i=>getD_setP L p1 hc
  have hl1:(L.set c p1).length = L.length:=List.length_set
  have hL1:(L.set c p1).getD h pc0 = L.getD h pc0:=by rw [hg1,if_neg (fun e=>hne e.symm)]
  generalize L.set c p1 = L1 at *
  by_cases hz2:z2 = 0
  ·subst hz2
   have hb2:=hm1.size
   refine (sell1_yes .returning hD1 hP1 (Nat.le_trans (by rw [hbD.out]; exact hB) hb2) (bD + 1 + 1 + 1) bD (bD + 1) (bD + 1 + 1) (c:Int) hr (c:=h) (by rw [hl1]; exact hh) hhH hE1 hB1 hB2 hB3
    ⟨hap _ (by omega) (by omega) h hh,hap _ (by omega) (by omega) h hh,hap _ (by omega) (by omega) h hh⟩).mono ?_
   rintro e u' w'' ⟨rfl,rfl,p2,⟨v1,v2,v3,v4⟩,hF2,hP2,hD2,hm2⟩
   have hHb:gH < bD:=by rw [← hbD.out]; exact hgHs.out
   have hE2:=hE1.mod hm2 (fun hk=>by
    rcases hk with hk | ⟨a,ea,hk⟩
    ·exact hap _ (by omega) (by omega) h hh hk
    ·cases ea
     simp only at hk
     omega)
   rw [hL1] at v1 v2 v3 v4 hF2 hm2
   have hg2:∀ i,(L1.set h p2).getD i pc0 = if h = i then p2 else L1.getD i pc0:=fun i=>getD_setP L1 p2 (by rw [hl1]; exact hh)
   refine ⟨_,res_tcD Tryz.results16 (g:=bD + 1 + 1 + 1) rfl (run_cellEr (hE2.cell (i:=0) (v:=.int .i64 0) rfl)),?_⟩
   refine ⟨by rw [hpp]; rfl,L1.set h p2,hP2,by rw [hpp,if_neg (fun h=>h rfl)]; exact hD2,by rw [List.length_set,hl1],fun i hi=>?_,hm1.trans (hm2.mono (fun k _ hk=>?_))⟩
   ·rw [hg2,hg1]
    unfold sellR
    rw [hpp]
    dsimp only
    rw [if_neg (fun h:¬ (0:Int) = 0=>h rfl)]
    by_cases ehi:h = i
    ·subst ehi
     rw [if_pos rfl,if_neg hne,if_pos rfl]
     refine ⟨⟨v1,v2,by omega⟩,v4,fun k hk=>?_⟩
     rcases hF2 k hk with hk | hk
     ·exact .inl hk
     ·exact .inr (Nat.le_trans hb2 hk)
    ·rw [if_neg ehi]
     by_cases eci:c = i
     ·subst eci
      rw [if_pos rfl,if_pos rfl]
      exact ⟨⟨u1,u2,by omega⟩,u4,hF'⟩
     ·rw [if_neg eci,if_neg (fun e=>eci e.symm),if_neg (fun e=>ehi e.symm)]
      exact ⟨⟨rfl,rfl,Nat.le_succ _⟩,rfl,fun k hk=>.inl hk⟩
   ·rcases hk with hk | ⟨a,ea,hk⟩
    ·exact .inl ⟨h,hh,hk⟩
    ·exact .inr ⟨a,ea,hk⟩
  ·refine (sell1_no .returning (bD + 1 + 1 + 1) bD (bD + 1) (bD + 1 + 1) z2 hz2 hE1).mono ?_
   rintro e u' w'' ⟨rfl,rfl,rfl⟩
   refine ⟨_,res_tcD Tryz.results16 (g:=bD + 1 + 1 + 1) rfl (run_cellEr (hE1.cell (i:=0) (v:=.int .i64 z2) rfl)),?_⟩
   have hRw:Rw = (L.getD c pc0).rows:=by
    by_cases hp0:(prcP (L.getD c pc0).fl (L.getD c pc0).rows t (r:Int)).2.2 = 0
    ·exfalso
     obtain ⟨_,_,_,_,_,_,_,_,_,_,_,_,_,e⟩:=put_ok hokc.out hp0
     rw [hpp] at e
     exact hz2 (congrArg (fun x=>x.2.2) e)
    ·have:=put_no hp0
     rw [hpp] at this
     exact congrArg (fun x=>x.1) this
   refine ⟨by rw [hpp]; rfl,L1,hP1,by rw [hpp,if_pos hz2]; exact hD1,hl1,fun i hi=>?_,hm1⟩
   rw [hg1]
   unfold sellR
   rw [hpp]
   dsimp only
   rw [if_pos hz2]
   by_cases eci:c = i
   ·subst eci
    rw [if_pos rfl]
    exact ⟨⟨u1,u2,by omega⟩,u4.trans hRw,hF'⟩
   ·rw [if_neg eci]
    exact ⟨⟨rfl,rfl,Nat.le_succ _⟩,rfl,fun k hk=>.inl hk⟩
theorem dsell_8a (req tv:Int) (hreq:req < 0) (hDl:DlIn w d L H gP cP qH cH):
  Calls Tryz.prog 16 #[.pointer (some ⟨d,0,none⟩),.int .i64 req,.int .i64 tv] w fun e w'=>e = .returned (.tuple #[.int .i64 0,.int .i64 8])∧Below w.heap.size w w':=by
 have hb0:=((new_below w (.cells #[.pointer (some ⟨d,0,none⟩)] 31)).alloc (by simp) (.cells #[.int .i64 req] 3)).alloc (by simp; omega) (.cells #[.int .i64 tv] 3) |>.alloc (by simp; omega) (.cells #[.int .i64 0] 41)
 obtain ⟨m,hm⟩:∃ m,H.length = m:=⟨_,rfl⟩
 go_enter_defers Tryz.func16,Tryz.ntmps16
 go_upto_region 1 with fail
 refine wp_world' (fun wx=>Blk wx w.heap.size #[.pointer (some ⟨d,0,none⟩)] 31∧Blk wx (w.heap.size + 1) #[.int .i64 req] 3∧Blk wx (w.heap.size + 2) #[.int .i64 tv] 3∧Blk wx (w.heap.size + 3) #[.int .i64 0] 41∧Below w.heap.size w wx)
  ⟨(((Blk.new _ _ _).alloc _).alloc _).alloc _,((blk_newAtC (by simp) _ _).alloc _).alloc _,(blk_newAtC (by simp) _ _).alloc _,blk_newAtC (by simp) _ _,hb0⟩ ?_
 rintro w1 ⟨k1,k2,k3,k4,hb⟩
 clear hb0
 have hbl:=fun {wx:World} (hm:Mod (fun _=>False) w1 wx)=>hb.trans (hm.below hb.size (fun _ h=>h.elim))
 have hD:=Lib.hid (fun wx (hm:Mod (fun _=>False) w1 wx)=>run_cellDl ((k1.mod hm (fun h=>h)).cell (i:=0) (v:=.pointer (some ⟨d,0,none⟩)) rfl))
 have hR:=Lib.hid (fun wx (hm:Mod (fun _=>False) w1 wx)=>run_i64D ((k2.mod hm (fun h=>h)).cell (i:=0) (v:=.int .i64 req) rfl))
 have hT:=Lib.hid (fun wx (hm:Mod (fun _=>False) w1 wx)=>run_i64D ((k3.mod hm (fun h=>h)).cell (i:=0) (v:=.int .i64 tv) rfl))
 have hEc:=Lib.hid (fun wx (hm:Mod (fun _=>False) w1 wx)=>(k4.mod hm (fun h=>h)).cell (i:=0) rfl)
 have hEf:=Lib.hid (fun wx (hm:Mod (fun _=>False) w1 wx)=>(k4.mod hm (fun h=>h)).froz 0)
 have hfin:=Lib.hid (fun wx (hm:Mod (fun _=>False) w1 wx)=>(by
  have h1:=(k4.mod hm (fun h=>h)).set 0 (.int .i64 8)
  have h2:=(Mod.refl (· = w.heap.size + 3) wx).setCell (p:=⟨w.heap.size + 3,0,none⟩) (fun _=>rfl) (.int .i64 8)
  exact ⟨run_cellEr (h1.cell (i:=0) (v:=.int .i64 8) rfl),(hbl hm).trans (h2.below (hbl hm).size (fun k hk=>by omega))⟩:
  (loadVar 41 ⟨w.heap.size + 3,0,none⟩).run Tryz.prog (wx.setCell ⟨w.heap.size + 3,0,none⟩ (.int .i64 8)) = .ok (.int .i64 8) (wx.setCell ⟨w.heap.size + 3,0,none⟩ (.int .i64 8))∧Below w.heap.size w (wx.setCell ⟨w.heap.size + 3,0,none⟩ (.int .i64 8))))
 have hHs:=Lib.hid (fun wx (hmm:Mod (fun _=>False) w1 wx)=>(by
  have:=run_cellIs ((hDl.below (hbl hmm)).box.cell (i:=1) rfl)
  rw [hm] at this
  exact this:(loadVar 35 ⟨d,1,none⟩).run Tryz.prog wx = .ok (.slice qH m cH) wx))
 clear hDl hm
 clear k1 k2 k3 k4 hb hbl
 have hld1:=Lib.hid (hD.out w1 (Mod.refl _ _))
 go_upto_region 3 with (refine wpList_load_v rfl 31 _ rfl ⟨w.heap.size,0,none⟩ rfl _ hld1.out ?_)
 refine wp_region_later (w0:=w1) (S:=fun _=>False) (Mod.refl _ _) (by kernel_rfl) (by kernel_rfl) ?_
 refine wpQuiet_v rfl (.int .i64 req) (by rintro _ ⟨z,rfl⟩; exact run_load_v rfl rfl (hR.out _ z.mod)) ?_
 simp only [Act.put,List.setIfInBounds_toArray,List.set_cons_succ,List.set_cons_zero]
 go_big_quiet_step (fail)
 go_big_quiet_step (fail)
 repeat (go_big_quiet_step (fail))
 refine wpQuiet_nil ?_
 rintro _ ⟨z,rfl⟩
 have hz1:=Lib.hid z.mod
 generalize z.val = w2 at *
 have hc9:=Lib.hid (hEc.out w2 hz1.out)
 have hf9:=Lib.hid (hEf.out w2 hz1.out)
 obtain ⟨hr9,hb9⟩:=hfin.out w2 hz1.out
 replace hb9:=Lib.hid hb9
 replace hr9:=Lib.hid hr9
 clear hEc hEf hfin
 go_wp2_with (first | (refine wpList_load_v rfl 31 _ rfl ⟨w.heap.size,0,none⟩ rfl _ hld1.out ?_) | (refine wpList_sw rfl rfl (run_storeE rfl rfl rfl hc9.out hf9.out) ?_))
 exact ⟨_,res_tcD Tryz.results16 (g:=w.heap.size + 3) rfl hr9.out,rfl,hb9.out⟩
theorem dsell_8b (req tv:Int) (hreq:¬ req < 0) (hreq2:(H.length:Int)≤req) (hDl:DlIn w d L H gP cP qH cH):
  Calls Tryz.prog 16 #[.pointer (some ⟨d,0,none⟩),.int .i64 req,.int .i64 tv] w fun e w'=>e = .returned (.tuple #[.int .i64 0,.int .i64 8])∧Below w.heap.size w w':=by
 have hb0:=((new_below w (.cells #[.pointer (some ⟨d,0,none⟩)] 31)).alloc (by simp) (.cells #[.int .i64 req] 3)).alloc (by simp; omega) (.cells #[.int .i64 tv] 3) |>.alloc (by simp; omega) (.cells #[.int .i64 0] 41)
 obtain ⟨m,hm⟩:∃ m,H.length = m:=⟨_,rfl⟩
 rw [hm] at hreq2
 go_enter_defers Tryz.func16,Tryz.ntmps16
 go_upto_region 1 with fail
 refine wp_world' (fun wx=>Blk wx w.heap.size #[.pointer (some ⟨d,0,none⟩)] 31∧Blk wx (w.heap.size + 1) #[.int .i64 req] 3∧Blk wx (w.heap.size + 2) #[.int .i64 tv] 3∧Blk wx (w.heap.size + 3) #[.int .i64 0] 41∧Below w.heap.size w wx)
  ⟨(((Blk.new _ _ _).alloc _).alloc _).alloc _,((blk_newAtC (by simp) _ _).alloc _).alloc _,(blk_newAtC (by simp) _ _).alloc _,blk_newAtC (by simp) _ _,hb0⟩ ?_
 rintro w1 ⟨k1,k2,k3,k4,hb⟩
 clear hb0
 have hbl:=fun {wx:World} (hm:Mod (fun _=>False) w1 wx)=>hb.trans (hm.below hb.size (fun _ h=>h.elim))
 have hD:=Lib.hid (fun wx (hm:Mod (fun _=>False) w1 wx)=>run_cellDl ((k1.mod hm (fun h=>h)).cell (i:=0) (v:=.pointer (some ⟨d,0,none⟩)) rfl))
 have hR:=Lib.hid (fun wx (hm:Mod (fun _=>False) w1 wx)=>run_i64D ((k2.mod hm (fun h=>h)).cell (i:=0) (v:=.int .i64 req) rfl))
 have hT:=Lib.hid (fun wx (hm:Mod (fun _=>False) w1 wx)=>run_i64D ((k3.mod hm (fun h=>h)).cell (i:=0) (v:=.int .i64 tv) rfl))
 have hEc:=Lib.hid (fun wx (hm:Mod (fun _=>False) w1 wx)=>(k4.mod hm (fun h=>h)).cell (i:=0) rfl)
 have hEf:=Lib.hid (fun wx (hm:Mod (fun _=>False) w1 wx)=>(k4.mod hm (fun h=>h)).froz 0)
 have hfin:=Lib.hid (fun wx (hm:Mod (fun _=>False) w1 wx)=>(by
  have h1:=(k4.mod hm (fun h=>h)).set 0 (.int .i64 8)
  have h2:=(Mod.refl (· = w.heap.size + 3) wx).setCell (p:=⟨w.heap.size + 3,0,none⟩) (fun _=>rfl) (.int .i64 8)
  exact ⟨run_cellEr (h1.cell (i:=0) (v:=.int .i64 8) rfl),(hbl hm).trans (h2.below (hbl hm).size (fun k hk=>by omega))⟩:
  (loadVar 41 ⟨w.heap.size + 3,0,none⟩).run Tryz.prog (wx.setCell ⟨w.heap.size + 3,0,none⟩ (.int .i64 8)) = .ok (.int .i64 8) (wx.setCell ⟨w.heap.size + 3,0,none⟩ (.int .i64 8))∧Below w.heap.size w (wx.setCell ⟨w.heap.size + 3,0,none⟩ (.int .i64 8))))
 have hHs:=Lib.hid (fun wx (hmm:Mod (fun _=>False) w1 wx)=>(by
  have:=run_cellIs ((hDl.below (hbl hmm)).box.cell (i:=1) rfl)
  rw [hm] at this
  exact this:(loadVar 35 ⟨d,1,none⟩).run Tryz.prog wx = .ok (.slice qH m cH) wx))
 clear hDl hm
 clear k1 k2 k3 k4 hb hbl
 have hld1:=Lib.hid (hD.out w1 (Mod.refl _ _))
 go_upto_region 3 with (refine wpList_load_v rfl 31 _ rfl ⟨w.heap.size,0,none⟩ rfl _ hld1.out ?_)
 refine wp_region_later (w0:=w1) (S:=fun _=>False) (Mod.refl _ _) (by kernel_rfl) (by kernel_rfl) ?_
 refine wpQuiet_v rfl (.int .i64 req) (by rintro _ ⟨z,rfl⟩; exact run_load_v rfl rfl (hR.out _ z.mod)) ?_
 simp only [Act.put,List.setIfInBounds_toArray,List.set_cons_succ,List.set_cons_zero]
 go_big_quiet_step (fail)
 go_big_quiet_step (fail)
 refine wpQuiet_v rfl (.int .i64 req) (by rintro _ ⟨z,rfl⟩; exact run_load_v rfl rfl (hR.out _ z.mod)) ?_
 simp only [Act.put,List.setIfInBounds_toArray,List.set_cons_succ,List.set_cons_zero]
 refine wpQuiet_v rfl (.pointer (some ⟨d,0,none⟩)) (by rintro _ ⟨z,rfl⟩; exact run_load_v rfl rfl (hD.out _ z.mod)) ?_
 simp only [Act.put,List.setIfInBounds_toArray,List.set_cons_succ,List.set_cons_zero]
 go_big_quiet_step (fail)
 go_big_quiet_step (fail)
 refine wpQuiet_v rfl (.slice qH m cH) (by rintro _ ⟨z,rfl⟩; exact run_load_v rfl rfl (hHs.out _ z.mod)) ?_
 simp only [Act.put,List.setIfInBounds_toArray,List.set_cons_succ,List.set_cons_zero]
 repeat (go_big_quiet_step (fail))
 refine wpQuiet_nil ?_
 rintro _ ⟨z,rfl⟩
 have hz1:=Lib.hid z.mod
 generalize z.val = w2 at *
 have hc9:=Lib.hid (hEc.out w2 hz1.out)
 have hf9:=Lib.hid (hEf.out w2 hz1.out)
 obtain ⟨hr9,hb9⟩:=hfin.out w2 hz1.out
 replace hb9:=Lib.hid hb9
 replace hr9:=Lib.hid hr9
 clear hEc hEf hfin
 go_wp2_with (first | (refine wpList_load_v rfl 31 _ rfl ⟨w.heap.size,0,none⟩ rfl _ hld1.out ?_) | (refine wpList_sw rfl rfl (run_storeE rfl rfl rfl hc9.out hf9.out) ?_))
 exact ⟨_,res_tcD Tryz.results16 (g:=w.heap.size + 3) rfl hr9.out,rfl,hb9.out⟩
theorem dsell_2 (req tv:Int) (hreq:¬ req < 0) (hreq2:req < (H.length:Int)) (htv:¬ (0≤tv∧tv < (L.length:Int))) (hDl:DlIn w d L H gP cP qH cH):
  Calls Tryz.prog 16 #[.pointer (some ⟨d,0,none⟩),.int .i64 req,.int .i64 tv] w fun e w'=>e = .returned (.tuple #[.int .i64 0,.int .i64 2])∧Below w.heap.size w w':=by
 have hb0:=((new_below w (.cells #[.pointer (some ⟨d,0,none⟩)] 31)).alloc (by simp) (.cells #[.int .i64 req] 3)).alloc (by simp; omega) (.cells #[.int .i64 tv] 3) |>.alloc (by simp; omega) (.cells #[.int .i64 0] 41)
 obtain ⟨m,hm⟩:∃ m,H.length = m:=⟨_,rfl⟩
 rw [hm] at hreq2
 have hreq3:¬ (m:Int)≤req:=by omega
 go_enter_defers Tryz.func16,Tryz.ntmps16
 go_upto_region 1 with fail
 refine wp_world' (fun wx=>Blk wx w.heap.size #[.pointer (some ⟨d,0,none⟩)] 31∧Blk wx (w.heap.size + 1) #[.int .i64 req] 3∧Blk wx (w.heap.size + 2) #[.int .i64 tv] 3∧Blk wx (w.heap.size + 3) #[.int .i64 0] 41∧Below w.heap.size w wx)
  ⟨(((Blk.new _ _ _).alloc _).alloc _).alloc _,((blk_newAtC (by simp) _ _).alloc _).alloc _,(blk_newAtC (by simp) _ _).alloc _,blk_newAtC (by simp) _ _,hb0⟩ ?_
 rintro w1 ⟨k1,k2,k3,k4,hb⟩
 clear hb0
 have hbl:=fun {wx:World} (hm:Mod (fun _=>False) w1 wx)=>hb.trans (hm.below hb.size (fun _ h=>h.elim))
 have hD:=Lib.hid (fun wx (hm:Mod (fun _=>False) w1 wx)=>run_cellDl ((k1.mod hm (fun h=>h)).cell (i:=0) (v:=.pointer (some ⟨d,0,none⟩)) rfl))
 have hR:=Lib.hid (fun wx (hm:Mod (fun _=>False) w1 wx)=>run_i64D ((k2.mod hm (fun h=>h)).cell (i:=0) (v:=.int .i64 req) rfl))
 have hT:=Lib.hid (fun wx (hm:Mod (fun _=>False) w1 wx)=>run_i64D ((k3.mod hm (fun h=>h)).cell (i:=0) (v:=.int .i64 tv) rfl))
 have hEc:=Lib.hid (fun wx (hm:Mod (fun _=>False) w1 wx)=>(k4.mod hm (fun h=>h)).cell (i:=0) rfl)
 have hEf:=Lib.hid (fun wx (hm:Mod (fun _=>False) w1 wx)=>(k4.mod hm (fun h=>h)).froz 0)
 have hfin:=Lib.hid (fun wx (hm:Mod (fun _=>False) w1 wx)=>(by
  have h1:=(k4.mod hm (fun h=>h)).set 0 (.int .i64 2)
  have h2:=(Mod.refl (· = w.heap.size + 3) wx).setCell (p:=⟨w.heap.size + 3,0,none⟩) (fun _=>rfl) (.int .i64 2)
  exact ⟨run_cellEr (h1.cell (i:=0) (v:=.int .i64 2) rfl),(hbl hm).trans (h2.below (hbl hm).size (fun k hk=>by omega))⟩:
  (loadVar 41 ⟨w.heap.size + 3,0,none⟩).run Tryz.prog (wx.setCell ⟨w.heap.size + 3,0,none⟩ (.int .i64 2)) = .ok (.int .i64 2) (wx.setCell ⟨w.heap.size + 3,0,none⟩ (.int .i64 2))∧Below w.heap.size w (wx.setCell ⟨w.heap.size + 3,0,none⟩ (.int .i64 2))))
 have hHs:=Lib.hid (fun wx (hmm:Mod (fun _=>False) w1 wx)=>(by
  have:=run_cellIs ((hDl.below (hbl hmm)).box.cell (i:=1) rfl)
  rw [hm] at this
  exact this:(loadVar 35 ⟨d,1,none⟩).run Tryz.prog wx = .ok (.slice qH m cH) wx))
 have his:=Lib.hid (fun wx (hm:Mod (fun _=>False) w1 wx)=>dis_calls (hDl.below (hbl hm)) tv)
 rw [decide_eq_false htv] at his
 clear hDl hm htv
 clear k1 k2 k3 k4 hb hbl
 have hld1:=Lib.hid (hD.out w1 (Mod.refl _ _))
 go_upto_region 3 with (refine wpList_load_v rfl 31 _ rfl ⟨w.heap.size,0,none⟩ rfl _ hld1.out ?_)
 refine wp_region_later (w0:=w1) (S:=fun _=>False) (Mod.refl _ _) (by kernel_rfl) (by kernel_rfl) ?_
 refine wpQuiet_v rfl (.int .i64 req) (by rintro _ ⟨z,rfl⟩; exact run_load_v rfl rfl (hR.out _ z.mod)) ?_
 simp only [Act.put,List.setIfInBounds_toArray,List.set_cons_succ,List.set_cons_zero]
 go_big_quiet_step (fail)
 go_big_quiet_step (fail)
 refine wpQuiet_v rfl (.int .i64 req) (by rintro _ ⟨z,rfl⟩; exact run_load_v rfl rfl (hR.out _ z.mod)) ?_
 simp only [Act.put,List.setIfInBounds_toArray,List.set_cons_succ,List.set_cons_zero]
 refine wpQuiet_v rfl (.pointer (some ⟨d,0,none⟩)) (by rintro _ ⟨z,rfl⟩; exact run_load_v rfl rfl (hD.out _ z.mod)) ?_
 simp only [Act.put,List.setIfInBounds_toArray,List.set_cons_succ,List.set_cons_zero]
 go_big_quiet_step (fail)
 go_big_quiet_step (fail)
 refine wpQuiet_v rfl (.slice qH m cH) (by rintro _ ⟨z,rfl⟩; exact run_load_v rfl rfl (hHs.out _ z.mod)) ?_
 simp only [Act.put,List.setIfInBounds_toArray,List.set_cons_succ,List.set_cons_zero]
 repeat (go_big_quiet_step (fail))
 refine wpQuiet_nil ?_
 rintro _ ⟨z,rfl⟩
 have hz1:=Lib.hid z.mod
 generalize z.val = w2 at *
 have hld2:=Lib.hid (hD.out w2 hz1.out)
 have hld3:=Lib.hid (hT.out w2 hz1.out)
 have hi2:=Lib.hid (his.out w2 hz1.out)
 go_wp2_with (first | (refine wpList_load_v rfl 31 _ rfl ⟨w.heap.size,0,none⟩ rfl _ hld2.out ?_) | (refine wpList_load_v rfl 3 _ rfl ⟨w.heap.size + 2,0,none⟩ rfl _ hld3.out ?_))
 refine hi2.out.mono ?_
 rintro e w3 ⟨rfl,rfl⟩
 have hc9:=Lib.hid (hEc.out w2 hz1.out)
 have hf9:=Lib.hid (hEf.out w2 hz1.out)
 obtain ⟨hr9,hb9⟩:=hfin.out w2 hz1.out
 replace hb9:=Lib.hid hb9
 replace hr9:=Lib.hid hr9
 clear hEc hEf hfin
 go_wp2_with (first | (refine wpList_load_v rfl 31 _ rfl ⟨w.heap.size,0,none⟩ rfl _ hld2.out ?_) | (refine wpList_sw rfl rfl (run_storeE rfl rfl rfl hc9.out hf9.out) ?_))
 exact ⟨_,res_tcD Tryz.results16 (g:=w.heap.size + 3) rfl hr9.out,rfl,hb9.out⟩
theorem dsell_18 {r:Nat} (tv:Int) (hr:r < H.length) (htv:0≤tv∧tv < (L.length:Int)) (hown:H.getD r 0 = tv) (hDl:DlIn w d L H gP cP qH cH):
  Calls Tryz.prog 16 #[.pointer (some ⟨d,0,none⟩),.int .i64 (r:Int),.int .i64 tv] w fun e w'=>e = .returned (.tuple #[.int .i64 0,.int .i64 18])∧Below w.heap.size w w':=by
 have hb0:=((new_below w (.cells #[.pointer (some ⟨d,0,none⟩)] 31)).alloc (by simp) (.cells #[.int .i64 (r:Int)] 3)).alloc (by simp; omega) (.cells #[.int .i64 tv] 3) |>.alloc (by simp; omega) (.cells #[.int .i64 0] 41)
 obtain ⟨m,hm⟩:∃ m,H.length = m:=⟨_,rfl⟩
 have hrm:r < m:=by omega
 have hreq:¬ (r:Int) < 0:=by omega
 have hreq2:(r:Int) < (m:Int):=by omega
 have hreq3:¬ (m:Int)≤(r:Int):=by omega
 go_enter_defers Tryz.func16,Tryz.ntmps16
 go_upto_region 1 with fail
 refine wp_world' (fun wx=>Blk wx w.heap.size #[.pointer (some ⟨d,0,none⟩)] 31∧Blk wx (w.heap.size + 1) #[.int .i64 (r:Int)] 3∧Blk wx (w.heap.size + 2) #[.int .i64 tv] 3∧Blk wx (w.heap.size + 3) #[.int .i64 0] 41∧Below w.heap.size w wx)
  ⟨(((Blk.new _ _ _).alloc _).alloc _).alloc _,((blk_newAtC (by simp) _ _).alloc _).alloc _,(blk_newAtC (by simp) _ _).alloc _,blk_newAtC (by simp) _ _,hb0⟩ ?_
 rintro w1 ⟨k1,k2,k3,k4,hb⟩
 clear hb0
 have hbl:=fun {wx:World} (hm:Mod (fun _=>False) w1 wx)=>hb.trans (hm.below hb.size (fun _ h=>h.elim))
 have hD:=Lib.hid (fun wx (hm:Mod (fun _=>False) w1 wx)=>run_cellDl ((k1.mod hm (fun h=>h)).cell (i:=0) (v:=.pointer (some ⟨d,0,none⟩)) rfl))
 have hR:=Lib.hid (fun wx (hm:Mod (fun _=>False) w1 wx)=>run_i64D ((k2.mod hm (fun h=>h)).cell (i:=0) (v:=.int .i64 (r:Int)) rfl))
 have hT:=Lib.hid (fun wx (hm:Mod (fun _=>False) w1 wx)=>run_i64D ((k3.mod hm (fun h=>h)).cell (i:=0) (v:=.int .i64 tv) rfl))
 have hEc:=Lib.hid (fun wx (hm:Mod (fun _=>False) w1 wx)=>(k4.mod hm (fun h=>h)).cell (i:=0) rfl)
 have hEf:=Lib.hid (fun wx (hm:Mod (fun _=>False) w1 wx)=>(k4.mod hm (fun h=>h)).froz 0)
 have hfin:=Lib.hid (fun wx (hm:Mod (fun _=>False) w1 wx)=>(by
  have h1:=(k4.mod hm (fun h=>h)).set 0 (.int .i64 18)
  have h2:=(Mod.refl (· = w.heap.size + 3) wx).setCell (p:=⟨w.heap.size + 3,0,none⟩) (fun _=>rfl) (.int .i64 18)
  exact ⟨run_cellEr (h1.cell (i:=0) (v:=.int .i64 18) rfl),(hbl hm).trans (h2.below (hbl hm).size (fun k hk=>by omega))⟩:
  (loadVar 41 ⟨w.heap.size + 3,0,none⟩).run Tryz.prog (wx.setCell ⟨w.heap.size + 3,0,none⟩ (.int .i64 18)) = .ok (.int .i64 18) (wx.setCell ⟨w.heap.size + 3,0,none⟩ (.int .i64 18))∧Below w.heap.size w (wx.setCell ⟨w.heap.size + 3,0,none⟩ (.int .i64 18))))
 have hHs:=Lib.hid (fun wx (hmm:Mod (fun _=>False) w1 wx)=>(by
  have:=run_cellIs ((hDl.below (hbl hmm)).box.cell (i:=1) rfl)
  rw [hm] at this
  exact this:(loadVar 35 ⟨d,1,none⟩).run Tryz.prog wx = .ok (.slice qH m cH) wx))
 have his:=Lib.hid (fun wx (hm:Mod (fun _=>False) w1 wx)=>dis_calls (hDl.below (hbl hm)) tv)
 rw [decide_eq_true htv] at his
 have hO:=Lib.hid (fun wx (hmm:Mod (fun _=>False) w1 wx)=>(by
  obtain ⟨g2,e,hcell⟩:=(hDl.below (hbl hmm)).own hr
  rw [hown] at hcell
  exact ⟨g2,e,run_i64D hcell⟩:∃ g2,qH = some ⟨g2,0,none⟩∧(loadVar 3 ((⟨g2,0,none⟩:Addr).add r)).run Tryz.prog wx = .ok (.int .i64 tv) wx))
 obtain ⟨gH,eH,_⟩:=hO.out w1 (Mod.refl _ _)
 subst eH
 replace hO:=Lib.hid (fun wx (hmm:Mod (fun _=>False) w1 wx)=>(by
  obtain ⟨g2,e,h⟩:=hO.out wx hmm
  cases e
  exact h:(loadVar 3 ((⟨gH,0,none⟩:Addr).add r)).run Tryz.prog wx = .ok (.int .i64 tv) wx))
 clear hDl hm htv hown
 clear k1 k2 k3 k4 hb hbl
 have hld1:=Lib.hid (hD.out w1 (Mod.refl _ _))
 go_upto_region 3 with (refine wpList_load_v rfl 31 _ rfl ⟨w.heap.size,0,none⟩ rfl _ hld1.out ?_)
 refine wp_region_later (w0:=w1) (S:=fun _=>False) (Mod.refl _ _) (by kernel_rfl) (by kernel_rfl) ?_
 refine wpQuiet_v rfl (.int .i64 (r:Int)) (by rintro _ ⟨z,rfl⟩; exact run_load_v rfl rfl (hR.out _ z.mod)) ?_
 simp only [Act.put,List.setIfInBounds_toArray,List.set_cons_succ,List.set_cons_zero]
 go_big_quiet_step (fail)
 go_big_quiet_step (fail)
 refine wpQuiet_v rfl (.int .i64 (r:Int)) (by rintro _ ⟨z,rfl⟩; exact run_load_v rfl rfl (hR.out _ z.mod)) ?_
 simp only [Act.put,List.setIfInBounds_toArray,List.set_cons_succ,List.set_cons_zero]
 refine wpQuiet_v rfl (.pointer (some ⟨d,0,none⟩)) (by rintro _ ⟨z,rfl⟩; exact run_load_v rfl rfl (hD.out _ z.mod)) ?_
 simp only [Act.put,List.setIfInBounds_toArray,List.set_cons_succ,List.set_cons_zero]
 go_big_quiet_step (fail)
 go_big_quiet_step (fail)
 refine wpQuiet_v rfl (.slice (some ⟨gH,0,none⟩) m cH) (by rintro _ ⟨z,rfl⟩; exact run_load_v rfl rfl (hHs.out _ z.mod)) ?_
 simp only [Act.put,List.setIfInBounds_toArray,List.set_cons_succ,List.set_cons_zero]
 repeat (go_big_quiet_step (fail))
 refine wpQuiet_nil ?_
 rintro _ ⟨z,rfl⟩
 have hz1:=Lib.hid z.mod
 generalize z.val = w2 at *
 have hld2:=Lib.hid (hD.out w2 hz1.out)
 have hld3:=Lib.hid (hT.out w2 hz1.out)
 have hi2:=Lib.hid (his.out w2 hz1.out)
 go_wp2_with (first | (refine wpList_load_v rfl 31 _ rfl ⟨w.heap.size,0,none⟩ rfl _ hld2.out ?_) | (refine wpList_load_v rfl 3 _ rfl ⟨w.heap.size + 2,0,none⟩ rfl _ hld3.out ?_))
 refine hi2.out.mono ?_
 rintro e w3 ⟨rfl,rfl⟩
 clear hi2 hld2 hld3 his hld1
 go_upto_region 7 with fail
 refine wp_region_later (w0:=w2) (S:=fun _=>False) (Mod.refl _ _) (by kernel_rfl) (by kernel_rfl) ?_
 refine wpQuiet_v rfl (.pointer (some ⟨d,0,none⟩)) (by rintro _ ⟨z,rfl⟩; exact run_load_v rfl rfl (hD.out _ (hz1.out.trans z.mod))) ?_
 simp only [Act.put,List.setIfInBounds_toArray,List.set_cons_succ,List.set_cons_zero]
 go_big_quiet_step (fail)
 go_big_quiet_step (fail)
 refine wpQuiet_v rfl (.slice (some ⟨gH,0,none⟩) m cH) (by rintro _ ⟨z,rfl⟩; exact run_load_v rfl rfl (hHs.out _ (hz1.out.trans z.mod))) ?_
 simp only [Act.put,List.setIfInBounds_toArray,List.set_cons_succ,List.set_cons_zero]
 refine wpQuiet_v rfl (.int .i64 (r:Int)) (by rintro _ ⟨z,rfl⟩; exact run_load_v rfl rfl (hR.out _ (hz1.out.trans z.mod))) ?_
 simp only [Act.put,List.setIfInBounds_toArray,List.set_cons_succ,List.set_cons_zero]
 refine wpQuiet_v rfl (.pointer (some ((⟨gH,0,none⟩:Addr).add r))) (by rintro _ ⟨z,rfl⟩; exact run_ixIn (k:=r) rfl rfl rfl hrm) ?_
 simp only [Act.put,List.setIfInBounds_toArray,List.set_cons_succ,List.set_cons_zero]
 refine wpQuiet_v rfl (.int .i64 tv) (by rintro _ ⟨z,rfl⟩; exact run_load_v rfl rfl (hO.out _ (hz1.out.trans z.mod))) ?_
 simp only [Act.put,List.setIfInBounds_toArray,List.set_cons_succ,List.set_cons_zero]
 refine wpQuiet_v rfl (.int .i64 tv) (by rintro _ ⟨z,rfl⟩; exact run_load_v rfl rfl (hT.out _ (hz1.out.trans z.mod))) ?_
 simp only [Act.put,List.setIfInBounds_toArray,List.set_cons_succ,List.set_cons_zero]
 repeat (go_big_quiet_step (fail))
 refine wpQuiet_nil ?_
 rintro _ ⟨z,rfl⟩
 have hz5:=Lib.hid (hz1.out.trans z.mod)
 generalize z.val = w5 at *
 have hld1:=Lib.hid (hD.out w5 hz5.out)
 have hc9:=Lib.hid (hEc.out w5 hz5.out)
 have hf9:=Lib.hid (hEf.out w5 hz5.out)
 obtain ⟨hr9,hb9⟩:=hfin.out w5 hz5.out
 replace hb9:=Lib.hid hb9
 replace hr9:=Lib.hid hr9
 clear hEc hEf hfin
 go_wp2_with (first | (refine wpList_load_v rfl 31 _ rfl ⟨w.heap.size,0,none⟩ rfl _ hld1.out ?_) | (refine wpList_sw rfl rfl (run_storeE rfl rfl rfl hc9.out hf9.out) ?_))
 exact ⟨_,res_tcD Tryz.results16 (g:=w.heap.size + 3) rfl hr9.out,rfl,hb9.out⟩
end
end
end
end Go.Proofs.YtkaoflndbcfodaaGreat
