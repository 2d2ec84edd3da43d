/-
  The row 'DealTells': a pack of the texts Sm28 Da3 Da4 Do28 Dt28, pruned to what the row uses.
-/
import Derived.Test.YtkaoflndbcfodaaGreatDealTellsQ32
namespace Go.Proofs.YtkaoflndbcfodaaGreat
set_option maxHeartbeats 8000000
set_option maxRecDepth 100000
section
section
open Go.RowKit
section
variable {ρ:Operand→Value} {o:Oper} {w:World} {x y:Operand}
theorem wanted_of28 {ops:Array Oper} {o:Oper} {ts:Array Value} {j:Nat} {b:Bool} {d:Nat} (hg:o.guard = some (j,b)) (hd:dstOf ops j = some d) (hv:ts[d]? = some (.bool b)):Region.wanted o (yielded ops ts) = true:=by
 unfold Region.wanted yielded
 unfold dstOf at hd
 simp only [hg,hd,Option.bind_some,hv,beq_self_eq_true]
theorem run_call1_28 {F:FuncId} {T1:TypeId} {a:Value} (ho:o.op = .call { callee:=.value (.func F),args:=#[x],argTypes:=#[T1] }) (hx:ρ x = a)
  (hF:(callFunc F #[a]).run Tryz.prog w = .ok (.enter F #[a]) w) (hf:ρ (.func F) = .func (.func F) #[] #[]:=by rfl):(execOp ρ o).run Tryz.prog w = .ok (.enter F #[a]) w:=by
 unfold execOp
 simp only [ho]
 go_simp
theorem run_neqII28 {n:Int} (ho:o.op = .binOp .neq 3 x y 3) (hx:ρ x = .int .i64 n) (hy:ρ y = .int .i64 n):(execOp ρ o).run Tryz.prog w = .ok (.value (.bool false)) w:=by
 unfold execOp
 simp only [ho,hx,hy]
 go_simp
theorem run_eqlII28 {n:Int} (ho:o.op = .binOp .eql 3 x y 3) (hx:ρ x = .int .i64 n) (hy:ρ y = .int .i64 n):(execOp ρ o).run Tryz.prog w = .ok (.value (.bool true)) w:=by
 unfold execOp
 simp only [ho,hx,hy]
 go_simp
theorem run_pickT28 {c a b:Operand} {v:Value} (ho:o.op = .pick c a b) (hc:ρ c = .bool true) (ha:ρ a = v):(execOp ρ o).run Tryz.prog w = .ok (.value v) w:=by
 unfold execOp
 simp only [ho,hc,ha]
 go_simp
theorem run_lenI28 {p:Option Addr} {n c:Nat} (ho:o.op = .call { callee:=.builtin .len,args:=#[x],argTypes:=#[35] }) (hx:ρ x = .slice p n c):(execOp ρ o).run Tryz.prog w = .ok (.value (.int .i64 (n:Int))) w:=by
 unfold execOp
 simp only [ho]
 go_simp
end
structure SmC (w:World) (rows:List Rou2) (x:Option Addr × Nat) (b:Bool) (W:World):Prop where
 m:Mod (fun _=>False) w W
 r:b = true→RsAt W w.heap.size x.1 rows
structure OwC (w:World) (H:List Int) (x:Option Addr × Nat) (b:Bool) (W:World):Prop where
 m:Mod (fun _=>False) w W
 r:b = true→Els W x.1 1 (H.map inV)
section
variable {w W W':World} {rows:List Rou2} {H:List Int} {x:Option Addr × Nat} {b:Bool}
theorem SmC.start (h:Mod (fun _=>False) w W):SmC w rows x false W:=⟨h,(fun h=>by cases h)⟩
theorem SmC.below (h:SmC w rows x b W) (hb:Below W.heap.size W W'):SmC w rows x b W':=⟨h.m.after hb,fun k=>(h.r k).below hb⟩
theorem SmC.op {q:Option Addr} {dq:Nat} (h:SmC w rows x false W) (hb:Below W.heap.size W W') (hR:RsAt W' W.heap.size q rows):SmC w rows (q,dq) true W':=by
 refine ⟨h.m.after hb,fun _=>?_⟩
 obtain ⟨qs,a1,a2,a3⟩:=hR
 exact ⟨qs,a1,fun a ha=>Nat.le_trans h.m.size (a2 a ha),fun i hi=>by
  obtain ⟨b1,b2,b3⟩:=a3 i hi
  exact ⟨b1,b2,fun h0=>by obtain ⟨g,C,e1,e2,e3⟩:=b3 h0; exact ⟨g,C,e1,Nat.le_trans h.m.size e2,e3⟩⟩⟩
theorem OwC.start (h:Mod (fun _=>False) w W):OwC w H x false W:=⟨h,(fun h=>by cases h)⟩
theorem OwC.below (h:OwC w H x b W) (hb:Below W.heap.size W W'):OwC w H x b W':=⟨h.m.after hb,fun k=>(h.r k).below hb⟩
theorem OwC.op {q:Option Addr} {dq:Nat} (h:OwC w H x false W) (hb:Below W.heap.size W W') (hR:Els W' q 1 (H.map inV)):OwC w H (q,dq) true W':=⟨h.m.after hb,fun _=>hR⟩
end
theorem dt_rt {L:List Pc} {fls:List (List Ve)} {t:List Rq} (h:∀ c,c < fls.length→(L.getD c pc0).fl = fls.getD c []):∀ k,k≤fls.length→dtK L t k = rtK fls (rwsL L) t k
 | 0,_=>rfl
 | k + 1,hk=>by
  show dtK L t k + totP (L.getD k pc0).fl (L.getD k pc0).rows t = rtK fls (rwsL L) t k + totP (fls.getD k []) ((rwsL L).getD k []) t
  rw [dt_rt h k (by omega),h k (by omega),rwsL_at]
section
variable {w0 w w':World} {B:Nat} {t:List Rq} {fls:List (List Ve)} {bs:List Nat} {d gP cP:Nat} {qK:Option Addr} {cK gB Hn i:Nat} {L:List Pc} {H:List Int} {dd gR:Nat} {qF:Option Addr} {cF:Nat} {pf:List (Option Addr × Nat)} {cR:Nat} {qT:Option Addr} {cT:Nat} {qH:Option Addr} {cH:Nat} {F:Nat→Prop}
theorem same28_calls (h:Tw28 w0 B t fls bs d gP cP qK cK gB Hn i L H dd gR qF cF pf cR qT cT qH cH F w) (hn8:fls.length≤8) (hH64:Hn≤64) (cB:Nat):
  Calls Tryz.prog 23 #[.slice (some ⟨gB,0,none⟩) fls.length cB,.pointer (some ⟨d,0,none⟩),.pointer (some ⟨dd,0,none⟩)] w fun e w'=>e = .returned (.bool true)∧Below w.heap.size w w':=by
 have hbl:∀ W W',Mod (fun _=>False) W W'→Below W.heap.size W W':=fun W W' h=>h.below (Nat.le_refl _) (fun _ h=>h.elim)
 have hst:=h.st
 have hok:∀ c,c < fls.length→PlnOk (fls.getD c []) ((rwsL L).getD c []) t:=fun c hc=>by
  have:=(hst.pcs.get (hst.mem hc)).2.1
  rw [(hst.eq c hc).2.1] at this
  rw [rwsL_at]
  exact this
 obtain ⟨pr,qss,hRd⟩:=h.rh.rd
 have hHl:=Lib.hid hst.hl
 have hcl0:=Lib.hid (fun i (hi:i < fls.length) wx (hm:Mod (fun _=>False) w wx)=>(hst.below (hbl _ _ hm)).cell hi)
 have hro0:=Lib.hid (fun i (hi:i < fls.length) wx (hm:Mod (fun _=>False) w wx)=>(by
  have h1:=((((hst.below (hbl _ _ hm)).pcs).get (hst.mem hi)).pst hst.pcs.tl).routes
  rw [(hst.eq i hi).1] at h1
  exact h1:Calls Tryz.prog 45 #[.pointer (some ⟨bs.getD i 0,0,none⟩)] wx (RsPost wx (L.getD i pc0).rows)))
 have hB10:=Lib.hid (fun wx (hm:Mod (fun _=>False) w wx)=>run_cR28 ((hRd.box.mod hm (fun h=>h)).cell (i:=1) rfl))
 have hB30:=Lib.hid (fun wx (hm:Mod (fun _=>False) w wx)=>run_cI28 ((hRd.box.mod hm (fun h=>h)).cell (i:=3) rfl))
 have hRc0:=Lib.hid (fun i (hi:i < fls.length) wx (hm:Mod (fun _=>False) w wx)=>run_cS28 (hm.cell_of (fun h=>h) (hRd.rcell hi)))
 have hsm0:=Lib.hid (fun i (hi:i < fls.length) (w1 wx:World) (h1:Mod (fun _=>False) w w1) (hm:Mod (fun _=>False) w1 wx) (q:Option Addr) (c:Nat) (hX:RsAt wx w1.heap.size q (L.getD i pc0).rows)=>(by
  obtain ⟨qa,a1,_,a3⟩:=hX
  have h2:=(hRd.mod (h1.trans hm) (fun _ h=>h.elim) (fun h=>h) (fun h=>h)).rws i hi
  have hl:(L.getD i pc0).rows.length≤100000:=by
   have h3:=hok i hi
   have:=h3.len
   have:=h3.many
   rw [rwsL_at] at *
   omega
  rw [rwsL_at] at h2
  have:=srows_calls q (pr.getD i (none,0)).1 c (pr.getD i (none,0)).2 (L.getD i pc0).rows (L.getD i pc0).rows qa (qss.getD i []) wx a1 h2.rws hl (fun j hj=>(a3 j hj).1) (fun j hj=>h2.row j hj)
  rw [decide_eq_true rfl] at this
  exact this:Calls Tryz.prog 44 #[.slice q (L.getD i pc0).rows.length c,.slice (pr.getD i (none,0)).1 (L.getD i pc0).rows.length (pr.getD i (none,0)).2] wx fun e w'=>e = .returned (.bool true)∧Below wx.heap.size wx w'))
 have hhd0:=Lib.hid (fun r (hr:r < Hn) wx (hm:Mod (fun _=>False) w wx)=>(hst.below (hbl _ _ hm)).holder hr)
 have hhc0:=Lib.hid (fun r (hr:r < Hn)=>(by
  obtain ⟨g,e1,e2⟩:=h.rh.cell hr
  exact ⟨g,e1,fun wx hm=>run_i64D (hm.cell_of (fun h=>h) e2)⟩:∃ g,qH = some ⟨g,0,none⟩∧∀ wx,Mod (fun _=>False) w wx→(loadVar 3 ((⟨g,0,none⟩:Addr).add r)).run Tryz.prog wx = .ok (.int .i64 (H.getD r 0)) wx))
 have how0:=Lib.hid (fun wx (hm:Mod (fun _=>False) w wx)=>downers_calls (hst.below (hbl _ _ hm)).dl)
 have hin0:=Lib.hid (fun wx (hm:Mod (fun _=>False) w wx) (q:Option Addr) (c:Nat) (hX:Els wx q 1 (H.map inV))=>(by
  have:=ints28_E q qH c cH H wx hX (els_modP h.rh.hol hm (fun _ _ _ h=>h))
  rw [hst.hl] at this
  exact this:Calls Tryz.prog 25 #[.slice q Hn c,.slice qH Hn cH] wx fun e w'=>e = .returned (.bool true)∧Below wx.heap.size wx w'))
 have hto0:=Lib.hid (fun wx (hm:Mod (fun _=>False) w wx)=>(by
  have h2:=hst.below (hbl _ _ hm)
  have:=dtotal_calls h2.dl h2.pcs
  rw [hst.len,dt_rt (fun c hc=>(hst.eq c hc).2.1) _ (Nat.le_refl _)] at this
  exact this:Calls Tryz.prog 19 #[.pointer (some ⟨d,0,none⟩)] wx fun e w'=>e = .returned (.int .i64 (rtK fls (rwsL L) t fls.length))∧Below wx.heap.size wx w'))
 have hrt0:=Lib.hid (fun wx (hm:Mod (fun _=>False) w wx)=>rtotal28_calls (hRd.below (hbl _ _ hm)) hn8 hok)
 have hri0:=Lib.hid (fun wx (hm:Mod (fun _=>False) w wx)=>(hst.below (hbl _ _ hm)).right)
 have hh10:=Lib.hid (fun wx (hm:Mod (fun _=>False) w wx)=>(by
  have:=dholder_calls (hst.below (hbl _ _ hm)).dl (-1)
  rw [if_pos (by omega)] at this
  exact this:Calls Tryz.prog 17 #[.pointer (some ⟨d,0,none⟩),.int .i64 (-1)] wx fun e w'=>e = .returned (.int .i64 (-1))∧wx = w'))
 have hh20:=Lib.hid (fun wx (hm:Mod (fun _=>False) w wx)=>(by
  have:=dholder_calls (hst.below (hbl _ _ hm)).dl (Hn:Int)
  rw [if_pos (by have:=hst.hl; omega)] at this
  exact this:Calls Tryz.prog 17 #[.pointer (some ⟨d,0,none⟩),.int .i64 (Hn:Int)] wx fun e w'=>e = .returned (.int .i64 (-1))∧wx = w'))
 obtain ⟨tot,htot⟩:∃ tot,rtK fls (rwsL L) t fls.length = tot:=⟨_,rfl⟩
 rw [htot] at hto0 hrt0
 obtain ⟨n,hn⟩:∃ n,fls.length = n:=⟨_,rfl⟩
 rw [hn] at hcl0 hro0 hB10 hRc0 hsm0 hn8 ⊢
 clear h hst hok hRd htot hn hbl
 go_enter Tryz.func23,Tryz.ntmps23
 go_wp2_with fail
 go_loopw [7] (fun s7 wx=>∃ k:Nat,k≤n∧s7 = .int .i64 k∧Mod (fun _=>False) w wx) (fun s7 _=>n - (intOf s7).toNat)
 case atStart=>exact ⟨0,Nat.zero_le _,rfl,Mod.refl _ _⟩
 case round=>
  obtain ⟨i,hi,rfl,hmw⟩:=hrel
  by_cases hlt:i < n
  ·have hltI:(i:Int) < (n:Int):=by omega
   have s1:IntKind.i64.wrap ((i:Int) + 1) = (i:Int) + 1:=IntWalk.i64_in _ (by omega)
   have hcl:=hcl0.out i hlt
   have hro:=hro0.out i hlt
   have hRc:=hRc0.out i hlt
   have hsm:=hsm0.out i hlt wr
   obtain ⟨rows,hrows⟩:∃ rows,(L.getD i pc0).rows = rows:=⟨_,rfl⟩
   have hrwl:(rwsL L).getD i [] = rows:=by rw [rwsL_at]; exact hrows
   rw [hrows] at hro hsm
   rw [hrwl] at hRc
   obtain ⟨m,hm⟩:∃ m,rows.length = m:=⟨_,rfl⟩
   rw [hm] at hRc hsm
   obtain ⟨bi,hbi⟩:∃ bi,bs.getD i 0 = bi:=⟨_,rfl⟩
   rw [hbi] at hcl hro
   obtain ⟨qr,dr,hpr⟩:∃ qr dr,pr.getD i (none,0) = (qr,dr):=⟨_,_,rfl⟩
   rw [hpr] at hRc hsm
   dsimp only at hRc hsm
   have hrl:=Lib.hid hm
   replace hcl:=Lib.hid (fun wx (h:Mod (fun _=>False) wr wx)=>hcl wx (hmw.trans h))
   replace hro:=Lib.hid (fun wx (h:Mod (fun _=>False) wr wx)=>hro wx (hmw.trans h))
   replace hRc:=Lib.hid (fun wx (h:Mod (fun _=>False) wr wx)=>hRc wx (hmw.trans h))
   replace hsm:=Lib.hid (fun wx (h:Mod (fun _=>False) wr wx)=>hsm wx hmw h)
   have hB1:=Lib.hid (fun wx (h:Mod (fun _=>False) wr wx)=>hB10.out wx (hmw.trans h))
   replace hmw:=Lib.hid hmw
   clear hrows hrwl hm hbi hpr
   go_upto_region 4 with fail
   refine wp_region_rove (X:=Option Addr × Nat) (none,0) (fun x=>[(15,.slice (some ⟨gB,0,none⟩) n cB),(16,.int .i64 (i:Int)),(17,.pointer (some ((⟨gB,0,none⟩:Addr).add i))),(18,.pointer (some ⟨bi,0,none⟩)),(20,.pointer (some ⟨dd,0,none⟩)),(21,.pointer (some ⟨dd,0,none⟩)),(22,.pointer (some ⟨dd,1,none⟩)),(23,.slice (some ⟨gR,0,none⟩) n cR),(24,.int .i64 (i:Int)),(25,.pointer (some ((⟨gR,0,none⟩:Addr).add i))),(26,.slice qr m dr),(27,.bool true),(28,.bool false)] ++ [(19,.slice x.1 m x.2)])
    (fun x dn W'=>SmC wr rows x (dn 4) W') (by kernel_rfl) (by kernel_rfl) (by kernel_rfl) (by kernel_rfl) (fun x=>by kernel_rfl)
    (SmC.start (Mod.refl _ _).drew) ?_ ?_
   ·intro aF hAF
    have E0:∀ x,(aF x).eval (.tmp 0) = .slice (some ⟨gB,0,none⟩) n cB:=by intro x; rw [hAF]; kernel_rfl
    have E2:∀ x,(aF x).eval (.tmp 2) = .pointer (some ⟨dd,0,none⟩):=by intro x; rw [hAF]; kernel_rfl
    have E7:∀ x,(aF x).eval (.tmp 7) = .int .i64 (i:Int):=by intro x; rw [hAF]; kernel_rfl
    have T15:∀ x,(aF x).tmps[15]? = some (.slice (some ⟨gB,0,none⟩) n cB):=by intro x; rw [hAF]; kernel_rfl
    have T16:∀ x,(aF x).tmps[16]? = some (.int .i64 (i:Int)):=by intro x; rw [hAF]; kernel_rfl
    have T17:∀ x,(aF x).tmps[17]? = some (.pointer (some ((⟨gB,0,none⟩:Addr).add i))):=by intro x; rw [hAF]; kernel_rfl
    have T18:∀ x,(aF x).tmps[18]? = some (.pointer (some ⟨bi,0,none⟩)):=by intro x; rw [hAF]; kernel_rfl
    have T20:∀ x,(aF x).tmps[20]? = some (.pointer (some ⟨dd,0,none⟩)):=by intro x; rw [hAF]; kernel_rfl
    have T21:∀ x,(aF x).tmps[21]? = some (.pointer (some ⟨dd,0,none⟩)):=by intro x; rw [hAF]; kernel_rfl
    have T22:∀ x,(aF x).tmps[22]? = some (.pointer (some ⟨dd,1,none⟩)):=by intro x; rw [hAF]; kernel_rfl
    have T23:∀ x,(aF x).tmps[23]? = some (.slice (some ⟨gR,0,none⟩) n cR):=by intro x; rw [hAF]; kernel_rfl
    have T24:∀ x,(aF x).tmps[24]? = some (.int .i64 (i:Int)):=by intro x; rw [hAF]; kernel_rfl
    have T25:∀ x,(aF x).tmps[25]? = some (.pointer (some ((⟨gR,0,none⟩:Addr).add i))):=by intro x; rw [hAF]; kernel_rfl
    have T26:∀ x,(aF x).tmps[26]? = some (.slice qr m dr):=by intro x; rw [hAF]; kernel_rfl
    have T27:∀ x,(aF x).tmps[27]? = some (.bool true):=by intro x; rw [hAF]; kernel_rfl
    have T28:∀ x,(aF x).tmps[28]? = some (.bool false):=by intro x; rw [hAF]; kernel_rfl
    have T19:∀ x,(aF x).tmps[19]? = some (.slice x.1 m x.2):=by intro x; rw [hAF]; kernel_rfl
    replace hAF:=Lib.hid hAF
    refine ⟨?_,?_,?_,?_,?_,?_,?_,?_,?_,?_,?_,?_,?_,?_,trivial⟩
    ·exact oq T15 rfl rfl fun x dn w' hd hc=>sv (run_mov rfl (E0 x)) hc
    ·exact oq T16 rfl rfl fun x dn w' hd hc=>sv (run_mov rfl (E7 x)) hc
    ·exact oq T17 rfl rfl fun x dn w' hd hc=>sv (run_ixPl rfl (ev T15 x) (ev T16 x) hlt) hc
    ·exact oq T18 rfl rfl fun x dn w' hd hc=>sv (run_load1 rfl (ev T17 x) (hcl.out _ hc.m)) hc
    ·exact opOk3_loud rfl fun x dn w' hd hn hc=>by
       have nf:dn 4 = false:=hn 4 (by kernel_rfl)
       rw [nf] at hc
       refine sk (run_call1_28 rfl (ev T18 x) (by kernel_rfl)) ((hro.out w' hc.m).mono ?_)
       intro e w'' hR
       obtain ⟨hb,q,dq,he,_,hRs⟩:=hR.at_
       rw [hrl.out] at he
       subst he
       refine ⟨_,rfl,(q,dq),(by rw [hAF.out]; exact agree_set 13 (19,.slice x.1 m x.2) rfl (by kernel_rfl)),(by intro t hd _; cases hd; exact T19 _),?_⟩
       exact hc.op hb hRs
    ·exact oq T20 rfl rfl fun x dn w' hd hc=>sv (run_mov rfl (E2 x)) hc
    ·exact oq T21 rfl rfl fun x dn w' hd hc=>sv (run_nilP rfl (ev T20 x)) hc
    ·exact oq T22 rfl rfl fun x dn w' hd hc=>sv (run_fldT rfl (ev T21 x) (fun _=>by kernel_rfl)) hc
    ·exact oq T23 rfl rfl fun x dn w' hd hc=>sv (run_load1 rfl (ev T22 x) (hB1.out _ hc.m)) hc
    ·exact oq T24 rfl rfl fun x dn w' hd hc=>sv (run_mov rfl (E7 x)) hc
    ·exact oq T25 rfl rfl fun x dn w' hd hc=>sv (run_ixR28 rfl (ev T23 x) (ev T24 x) hlt) hc
    ·exact oq T26 rfl rfl fun x dn w' hd hc=>sv (run_load1 rfl (ev T25 x) (hRc.out _ hc.m)) hc
    ·exact oq T27 rfl rfl fun x dn w' hd hc=>by
       have n:dn 4 = true:=hd 4 (by kernel_rfl)
       rw [n] at hc
       refine sc (run_call2_28 rfl (ev T19 x) (ev T26 x) (by kernel_rfl)) ((hsm.out w' hc.m _ _ (hc.r rfl)).mono (fun e w'' hq=>⟨hq.1,?_⟩))
       show SmC wr rows x (dn 4) w''
       rw [n]
       exact hc.below hq.2
    ·exact oq T28 rfl rfl fun x dn w' hd hc=>sv (run_notS rfl (ev T27 x)) hc
   ·intro xb dn w' hd hc
    simp only [putAll,List.foldl_cons,List.foldl_nil,List.cons_append,List.nil_append,Act.put,List.setIfInBounds_toArray,List.set_cons_succ,List.set_cons_zero]
    have hm2:=Lib.hid (hmw.out.trans hc.m)
    clear hc hd hcl hro hRc hsm hB1 hmw
    go_wp2_with fail
    go_roundw
    case rel=>exact ⟨i + 1,by omega,by simp,hm2.out⟩
    case measure=>simp [intOf]; omega
  ·obtain rfl:n = i:=by omega
   replace hmw:=Lib.hid hmw
   obtain ⟨w1,hw1⟩:∃ w1,w1 = wr:=⟨_,rfl⟩
   have hB3x:=Lib.hid (fun wx (h:Mod (fun _=>False) wr wx)=>hB30.out wx (hmw.out.trans h))
   go_wp2_with fail
   go_loopw [8] (fun s8 wx=>∃ k:Nat,k≤Hn∧s8 = .int .i64 k∧Mod (fun _=>False) w1 wx) (fun s8 _=>Hn - (intOf s8).toNat)
   case atStart=>exact ⟨0,Nat.zero_le _,rfl,by rw [hw1]; exact Mod.refl _ _⟩
   case round=>
    rw [← hw1] at hmw hB3x
    clear hw1
    obtain ⟨i,hi,rfl,hm1⟩:=hrel
    have hl3:=Lib.hid (hB3x.out _ hm1)
    by_cases hlt:i < Hn
    ·have hltI:(i:Int) < (Hn:Int):=by omega
     have s1:IntKind.i64.wrap ((i:Int) + 1) = (i:Int) + 1:=IntWalk.i64_in _ (by omega)
     have hmr:=hmw.out.trans hm1
     obtain ⟨gh,rfl,hhc⟩:=hhc0.out i hlt
     have hhd:=hhd0.out i hlt
     obtain ⟨hv,hhv⟩:∃ hv,H.getD i 0 = hv:=⟨_,rfl⟩
     rw [hhv] at hhc hhd
     replace hhc:=Lib.hid (fun wx (h:Mod (fun _=>False) wr wx)=>hhc wx (hmr.trans h))
     replace hhd:=Lib.hid (fun wx (h:Mod (fun _=>False) wr wx)=>hhd wx (hmr.trans h))
     have hB3:=Lib.hid (fun wx (h:Mod (fun _=>False) wr wx)=>hB30.out wx (hmr.trans h))
     replace hm1:=Lib.hid hm1
     clear hhv hmr
     go_upto_region 9 with (refine wpList_load_v rfl 35 _ rfl ⟨dd,3,none⟩ rfl _ hl3.out ?_)
     refine wp_region_rove (X:=Unit) () (fun x=>[(38,.pointer (some ⟨d,0,none⟩)),(39,.int .i64 (i:Int)),(40,.int .i64 hv),(41,.pointer (some ⟨dd,0,none⟩)),(42,.pointer (some ⟨dd,0,none⟩)),(43,.pointer (some ⟨dd,3,none⟩)),(44,.slice (some ⟨gh,0,none⟩) Hn cH),(45,.int .i64 (i:Int)),(46,.pointer (some ((⟨gh,0,none⟩:Addr).add i))),(47,.int .i64 hv),(48,.bool false)])
      (fun x dn W'=>Mod (fun _=>False) wr W') (by kernel_rfl) (by kernel_rfl) (by kernel_rfl) (by kernel_rfl) (fun x=>by kernel_rfl)
      (Mod.refl _ _).drew ?_ ?_
     ·intro aF hAF
      have E1:∀ x,(aF x).eval (.tmp 1) = .pointer (some ⟨d,0,none⟩):=by intro x; rw [hAF]; kernel_rfl
      have E2:∀ x,(aF x).eval (.tmp 2) = .pointer (some ⟨dd,0,none⟩):=by intro x; rw [hAF]; kernel_rfl
      have E8:∀ x,(aF x).eval (.tmp 8) = .int .i64 (i:Int):=by intro x; rw [hAF]; kernel_rfl
      have T38:∀ x,(aF x).tmps[38]? = some (.pointer (some ⟨d,0,none⟩)):=by intro x; rw [hAF]; kernel_rfl
      have T39:∀ x,(aF x).tmps[39]? = some (.int .i64 (i:Int)):=by intro x; rw [hAF]; kernel_rfl
      have T40:∀ x,(aF x).tmps[40]? = some (.int .i64 hv):=by intro x; rw [hAF]; kernel_rfl
      have T41:∀ x,(aF x).tmps[41]? = some (.pointer (some ⟨dd,0,none⟩)):=by intro x; rw [hAF]; kernel_rfl
      have T42:∀ x,(aF x).tmps[42]? = some (.pointer (some ⟨dd,0,none⟩)):=by intro x; rw [hAF]; kernel_rfl
      have T43:∀ x,(aF x).tmps[43]? = some (.pointer (some ⟨dd,3,none⟩)):=by intro x; rw [hAF]; kernel_rfl
      have T44:∀ x,(aF x).tmps[44]? = some (.slice (some ⟨gh,0,none⟩) Hn cH):=by intro x; rw [hAF]; kernel_rfl
      have T45:∀ x,(aF x).tmps[45]? = some (.int .i64 (i:Int)):=by intro x; rw [hAF]; kernel_rfl
      have T46:∀ x,(aF x).tmps[46]? = some (.pointer (some ((⟨gh,0,none⟩:Addr).add i))):=by intro x; rw [hAF]; kernel_rfl
      have T47:∀ x,(aF x).tmps[47]? = some (.int .i64 hv):=by intro x; rw [hAF]; kernel_rfl
      have T48:∀ x,(aF x).tmps[48]? = some (.bool false):=by intro x; rw [hAF]; kernel_rfl
      replace hAF:=Lib.hid hAF
      refine ⟨?_,?_,?_,?_,?_,?_,?_,?_,?_,?_,?_,trivial⟩
      ·exact oq T38 rfl rfl fun x dn w' hd hc=>sv (run_mov rfl (E1 x)) hc
      ·exact oq T39 rfl rfl fun x dn w' hd hc=>sv (run_mov rfl (E8 x)) hc
      ·exact oq T40 rfl rfl fun x dn w' hd hc=>sc (run_call2_28 rfl (ev T38 x) (ev T39 x) (by kernel_rfl)) ((hhd.out w' hc).mono (fun e w'' hq=>⟨hq.1,by rw [← hq.2]; exact hc⟩))
      ·exact oq T41 rfl rfl fun x dn w' hd hc=>sv (run_mov rfl (E2 x)) hc
      ·exact oq T42 rfl rfl fun x dn w' hd hc=>sv (run_nilP rfl (ev T41 x)) hc
      ·exact oq T43 rfl rfl fun x dn w' hd hc=>sv (run_fldT rfl (ev T42 x) (fun _=>by kernel_rfl)) hc
      ·exact oq T44 rfl rfl fun x dn w' hd hc=>sv (run_load1 rfl (ev T43 x) (hB3.out _ hc)) hc
      ·exact oq T45 rfl rfl fun x dn w' hd hc=>sv (run_mov rfl (E8 x)) hc
      ·exact oq T46 rfl rfl fun x dn w' hd hc=>sv (run_ixIn rfl (ev T44 x) (ev T45 x) hlt) hc
      ·exact oq T47 rfl rfl fun x dn w' hd hc=>sv (run_load1 rfl (ev T46 x) (hhc.out _ hc)) hc
      ·exact oq T48 rfl rfl fun x dn w' hd hc=>sv (run_neqII28 rfl (ev T40 x) (ev T47 x)) hc
     ·intro xb dn w' hd hc
      simp only [putAll,List.foldl_cons,List.foldl_nil,Act.put,List.setIfInBounds_toArray,List.set_cons_succ,List.set_cons_zero]
      have hm2:=Lib.hid (hm1.out.trans hc)
      clear hc hd hhc hhd hB3 hm1 hl3
      go_wp2_with fail
      go_roundw
      case rel=>exact ⟨i + 1,by omega,by simp,hm2.out⟩
      case measure=>simp [intOf]; omega
    ·obtain rfl:Hn = i:=by omega
     have hmr:=hmw.out.trans hm1
     have hB3:=Lib.hid (fun wx (h:Mod (fun _=>False) wr wx)=>hB30.out wx (hmr.trans h))
     have how:=Lib.hid (fun wx (h:Mod (fun _=>False) wr wx)=>how0.out wx (hmr.trans h))
     have hin:=Lib.hid (fun wx (h:Mod (fun _=>False) wr wx)=>hin0.out wx (hmr.trans h))
     have hto:=Lib.hid (fun wx (h:Mod (fun _=>False) wr wx)=>hto0.out wx (hmr.trans h))
     have hrt:=Lib.hid (fun wx (h:Mod (fun _=>False) wr wx)=>hrt0.out wx (hmr.trans h))
     have hri:=Lib.hid (fun wx (h:Mod (fun _=>False) wr wx)=>hri0.out wx (hmr.trans h))
     have hh1:=Lib.hid (fun wx (h:Mod (fun _=>False) wr wx)=>hh10.out wx (hmr.trans h))
     have hh2:=Lib.hid (fun wx (h:Mod (fun _=>False) wr wx)=>hh20.out wx (hmr.trans h))
     replace hmr:=Lib.hid hmr
     clear hm1
     go_upto_region 11 with (refine wpList_load_v rfl 35 _ rfl ⟨dd,3,none⟩ rfl _ hl3.out ?_)
     refine wp_region_rove (X:=Option Addr × Nat) (none,0) (fun x=>[(49,.pointer (some ⟨d,0,none⟩)),(51,.pointer (some ⟨dd,0,none⟩)),(52,.pointer (some ⟨dd,0,none⟩)),(53,.pointer (some ⟨dd,3,none⟩)),(54,.slice qH Hn cH),(55,.bool true),(56,.bool true),(57,.pointer (some ⟨d,0,none⟩)),(58,.int .i64 tot),(59,.pointer (some ⟨dd,0,none⟩)),(60,.int .i64 tot),(61,.bool true),(62,.bool true),(63,.bool true),(64,.pointer (some ⟨d,0,none⟩)),(65,.bool true),(66,.bool true),(67,.bool true),(68,.pointer (some ⟨d,0,none⟩)),(69,.int .i64 (-1)),(70,.bool true),(71,.bool true),(72,.bool true),(73,.pointer (some ⟨d,0,none⟩)),(74,.pointer (some ⟨dd,0,none⟩)),(75,.pointer (some ⟨dd,0,none⟩)),(76,.pointer (some ⟨dd,3,none⟩)),(77,.slice qH Hn cH),(78,.int .i64 (Hn:Int)),(79,.int .i64 (-1)),(80,.bool true),(81,.bool true),(6,.bool true)] ++ [(50,.slice x.1 Hn x.2)])
      (fun x dn W'=>OwC wr H x (dn 1) W') (by kernel_rfl) (by kernel_rfl) (by kernel_rfl) (by kernel_rfl) (fun x=>by kernel_rfl)
      (OwC.start (Mod.refl _ _).drew) ?_ ?_
     ·intro aF hAF
      have E1:∀ x,(aF x).eval (.tmp 1) = .pointer (some ⟨d,0,none⟩):=by intro x; rw [hAF]; kernel_rfl
      have E2:∀ x,(aF x).eval (.tmp 2) = .pointer (some ⟨dd,0,none⟩):=by intro x; rw [hAF]; kernel_rfl
      have T49:∀ x,(aF x).tmps[49]? = some (.pointer (some ⟨d,0,none⟩)):=by intro x; rw [hAF]; kernel_rfl
      have T51:∀ x,(aF x).tmps[51]? = some (.pointer (some ⟨dd,0,none⟩)):=by intro x; rw [hAF]; kernel_rfl
      have T52:∀ x,(aF x).tmps[52]? = some (.pointer (some ⟨dd,0,none⟩)):=by intro x; rw [hAF]; kernel_rfl
      have T53:∀ x,(aF x).tmps[53]? = some (.pointer (some ⟨dd,3,none⟩)):=by intro x; rw [hAF]; kernel_rfl
      have T54:∀ x,(aF x).tmps[54]? = some (.slice qH Hn cH):=by intro x; rw [hAF]; kernel_rfl
      have T55:∀ x,(aF x).tmps[55]? = some (.bool true):=by intro x; rw [hAF]; kernel_rfl
      have T56:∀ x,(aF x).tmps[56]? = some (.bool true):=by intro x; rw [hAF]; kernel_rfl
      have T57:∀ x,(aF x).tmps[57]? = some (.pointer (some ⟨d,0,none⟩)):=by intro x; rw [hAF]; kernel_rfl
      have T58:∀ x,(aF x).tmps[58]? = some (.int .i64 tot):=by intro x; rw [hAF]; kernel_rfl
      have T59:∀ x,(aF x).tmps[59]? = some (.pointer (some ⟨dd,0,none⟩)):=by intro x; rw [hAF]; kernel_rfl
      have T60:∀ x,(aF x).tmps[60]? = some (.int .i64 tot):=by intro x; rw [hAF]; kernel_rfl
      have T61:∀ x,(aF x).tmps[61]? = some (.bool true):=by intro x; rw [hAF]; kernel_rfl
      have T62:∀ x,(aF x).tmps[62]? = some (.bool true):=by intro x; rw [hAF]; kernel_rfl
      have T63:∀ x,(aF x).tmps[63]? = some (.bool true):=by intro x; rw [hAF]; kernel_rfl
      have T64:∀ x,(aF x).tmps[64]? = some (.pointer (some ⟨d,0,none⟩)):=by intro x; rw [hAF]; kernel_rfl
      have T65:∀ x,(aF x).tmps[65]? = some (.bool true):=by intro x; rw [hAF]; kernel_rfl
      have T66:∀ x,(aF x).tmps[66]? = some (.bool true):=by intro x; rw [hAF]; kernel_rfl
      have T67:∀ x,(aF x).tmps[67]? = some (.bool true):=by intro x; rw [hAF]; kernel_rfl
      have T68:∀ x,(aF x).tmps[68]? = some (.pointer (some ⟨d,0,none⟩)):=by intro x; rw [hAF]; kernel_rfl
      have T69:∀ x,(aF x).tmps[69]? = some (.int .i64 (-1)):=by intro x; rw [hAF]; kernel_rfl
      have T70:∀ x,(aF x).tmps[70]? = some (.bool true):=by intro x; rw [hAF]; kernel_rfl
      have T71:∀ x,(aF x).tmps[71]? = some (.bool true):=by intro x; rw [hAF]; kernel_rfl
      have T72:∀ x,(aF x).tmps[72]? = some (.bool true):=by intro x; rw [hAF]; kernel_rfl
      have T73:∀ x,(aF x).tmps[73]? = some (.pointer (some ⟨d,0,none⟩)):=by intro x; rw [hAF]; kernel_rfl
      have T74:∀ x,(aF x).tmps[74]? = some (.pointer (some ⟨dd,0,none⟩)):=by intro x; rw [hAF]; kernel_rfl
      have T75:∀ x,(aF x).tmps[75]? = some (.pointer (some ⟨dd,0,none⟩)):=by intro x; rw [hAF]; kernel_rfl
      have T76:∀ x,(aF x).tmps[76]? = some (.pointer (some ⟨dd,3,none⟩)):=by intro x; rw [hAF]; kernel_rfl
      have T77:∀ x,(aF x).tmps[77]? = some (.slice qH Hn cH):=by intro x; rw [hAF]; kernel_rfl
      have T78:∀ x,(aF x).tmps[78]? = some (.int .i64 (Hn:Int)):=by intro x; rw [hAF]; kernel_rfl
      have T79:∀ x,(aF x).tmps[79]? = some (.int .i64 (-1)):=by intro x; rw [hAF]; kernel_rfl
      have T80:∀ x,(aF x).tmps[80]? = some (.bool true):=by intro x; rw [hAF]; kernel_rfl
      have T81:∀ x,(aF x).tmps[81]? = some (.bool true):=by intro x; rw [hAF]; kernel_rfl
      have T6:∀ x,(aF x).tmps[6]? = some (.bool true):=by intro x; rw [hAF]; kernel_rfl
      have T50:∀ x,(aF x).tmps[50]? = some (.slice x.1 Hn x.2):=by intro x; rw [hAF]; kernel_rfl
      replace hAF:=Lib.hid hAF
      refine ⟨?_,?_,?_,?_,?_,?_,?_,?_,?_,?_,?_,?_,?_,?_,?_,?_,?_,?_,?_,?_,?_,?_,?_,?_,?_,?_,?_,?_,?_,?_,?_,?_,?_,?_,trivial⟩
      ·exact oq T49 rfl rfl fun x dn w' hd hc=>sv (run_mov rfl (E1 x)) hc
      ·exact opOk3_loud rfl fun x dn w' hd hn hc=>by
         have nf:dn 1 = false:=hn 1 (by kernel_rfl)
         rw [nf] at hc
         refine sk (run_call1_28 rfl (ev T49 x) (by kernel_rfl)) ((how.out w' hc.m).mono ?_)
         intro e w'' hR
         obtain ⟨hb,q,dq,he,hE,_,_⟩:=hR
         rw [hHl.out] at he
         subst he
         refine ⟨_,rfl,(q,dq),(by rw [hAF.out]; exact agree_set 33 (50,.slice x.1 Hn x.2) rfl (by kernel_rfl)),(by intro t hd _; cases hd; exact T50 _),?_⟩
         exact hc.op hb hE
      ·exact oq T51 rfl rfl fun x dn w' hd hc=>sv (run_mov rfl (E2 x)) hc
      ·exact oq T52 rfl rfl fun x dn w' hd hc=>sv (run_nilP rfl (ev T51 x)) hc
      ·exact oq T53 rfl rfl fun x dn w' hd hc=>sv (run_fldT rfl (ev T52 x) (fun _=>by kernel_rfl)) hc
      ·exact oq T54 rfl rfl fun x dn w' hd hc=>sv (run_load1 rfl (ev T53 x) (hB3.out _ hc.m)) hc
      ·exact oq T55 rfl rfl fun x dn w' hd hc=>by
         have n:dn 1 = true:=hd 1 (by kernel_rfl)
         rw [n] at hc
         refine sc (run_call2_28 rfl (ev T50 x) (ev T54 x) (by kernel_rfl)) ((hin.out w' hc.m _ _ (hc.r rfl)).mono (fun e w'' hq=>⟨hq.1,?_⟩))
         show OwC wr H x (dn 1) w''
         rw [n]
         exact hc.below hq.2
      ·exact oq T56 rfl rfl fun x dn w' hd hc=>sv (run_mov rfl (ev T55 x)) hc
      ·exact opOk3_quiet _ (by intro x t hd _; cases hd; exact T57 x) (fun x=>wanted_of28 rfl rfl (T56 x)) fun x dn w' hd hc=>sv (run_mov rfl (E1 x)) hc
      ·exact opOk3_quiet _ (by intro x t hd _; cases hd; exact T58 x) (fun x=>wanted_of28 rfl rfl (T56 x)) fun x dn w' hd hc=>sc (run_call1_28 rfl (ev T57 x) (by kernel_rfl)) ((hto.out w' hc.m).mono (fun e w'' hq=>⟨hq.1,hc.below hq.2⟩))
      ·exact opOk3_quiet _ (by intro x t hd _; cases hd; exact T59 x) (fun x=>wanted_of28 rfl rfl (T56 x)) fun x dn w' hd hc=>sv (run_mov rfl (E2 x)) hc
      ·exact opOk3_quiet _ (by intro x t hd _; cases hd; exact T60 x) (fun x=>wanted_of28 rfl rfl (T56 x)) fun x dn w' hd hc=>sc (run_call1_28 rfl (ev T59 x) (by kernel_rfl)) ((hrt.out w' hc.m).mono (fun e w'' hq=>⟨hq.1,hc.below hq.2⟩))
      ·exact opOk3_quiet _ (by intro x t hd _; cases hd; exact T61 x) (fun x=>wanted_of28 rfl rfl (T56 x)) fun x dn w' hd hc=>sv (run_eqlII28 rfl (ev T58 x) (ev T60 x)) hc
      ·exact oq T62 rfl rfl fun x dn w' hd hc=>sv (run_pickT28 rfl (ev T56 x) (ev T61 x)) hc
      ·exact oq T63 rfl rfl fun x dn w' hd hc=>sv (run_mov rfl (ev T62 x)) hc
      ·exact opOk3_quiet _ (by intro x t hd _; cases hd; exact T64 x) (fun x=>wanted_of28 rfl rfl (T63 x)) fun x dn w' hd hc=>sv (run_mov rfl (E1 x)) hc
      ·exact opOk3_quiet _ (by intro x t hd _; cases hd; exact T65 x) (fun x=>wanted_of28 rfl rfl (T63 x)) fun x dn w' hd hc=>sc (run_call1_28 rfl (ev T64 x) (by kernel_rfl)) ((hri.out w' hc.m).mono (fun e w'' hq=>⟨hq.1,hc.below hq.2⟩))
      ·exact oq T66 rfl rfl fun x dn w' hd hc=>sv (run_pickT28 rfl (ev T63 x) (ev T65 x)) hc
      ·exact oq T67 rfl rfl fun x dn w' hd hc=>sv (run_mov rfl (ev T66 x)) hc
      ·exact opOk3_quiet _ (by intro x t hd _; cases hd; exact T68 x) (fun x=>wanted_of28 rfl rfl (T67 x)) fun x dn w' hd hc=>sv (run_mov rfl (E1 x)) hc
      ·exact opOk3_quiet _ (by intro x t hd _; cases hd; exact T69 x) (fun x=>wanted_of28 rfl rfl (T67 x)) fun x dn w' hd hc=>sc (run_call2_28 rfl (ev T68 x) rfl (by kernel_rfl)) ((hh1.out w' hc.m).mono (fun e w'' hq=>⟨hq.1,by rw [← hq.2]; exact hc⟩))
      ·exact opOk3_quiet _ (by intro x t hd _; cases hd; exact T70 x) (fun x=>wanted_of28 rfl rfl (T67 x)) fun x dn w' hd hc=>sv (run_eqlII28 rfl (ev T69 x) rfl) hc
      ·exact oq T71 rfl rfl fun x dn w' hd hc=>sv (run_pickT28 rfl (ev T67 x) (ev T70 x)) hc
      ·exact oq T72 rfl rfl fun x dn w' hd hc=>sv (run_mov rfl (ev T71 x)) hc
      ·exact opOk3_quiet _ (by intro x t hd _; cases hd; exact T73 x) (fun x=>wanted_of28 rfl rfl (T72 x)) fun x dn w' hd hc=>sv (run_mov rfl (E1 x)) hc
      ·exact opOk3_quiet _ (by intro x t hd _; cases hd; exact T74 x) (fun x=>wanted_of28 rfl rfl (T72 x)) fun x dn w' hd hc=>sv (run_mov rfl (E2 x)) hc
      ·exact opOk3_quiet _ (by intro x t hd _; cases hd; exact T75 x) (fun x=>wanted_of28 rfl rfl (T72 x)) fun x dn w' hd hc=>sv (run_nilP rfl (ev T74 x)) hc
      ·exact opOk3_quiet _ (by intro x t hd _; cases hd; exact T76 x) (fun x=>wanted_of28 rfl rfl (T72 x)) fun x dn w' hd hc=>sv (run_fldT rfl (ev T75 x) (fun _=>by kernel_rfl)) hc
      ·exact opOk3_quiet _ (by intro x t hd _; cases hd; exact T77 x) (fun x=>wanted_of28 rfl rfl (T72 x)) fun x dn w' hd hc=>sv (run_load1 rfl (ev T76 x) (hB3.out _ hc.m)) hc
      ·exact opOk3_quiet _ (by intro x t hd _; cases hd; exact T78 x) (fun x=>wanted_of28 rfl rfl (T72 x)) fun x dn w' hd hc=>sv (run_lenI28 rfl (ev T77 x)) hc
      ·exact opOk3_quiet _ (by intro x t hd _; cases hd; exact T79 x) (fun x=>wanted_of28 rfl rfl (T72 x)) fun x dn w' hd hc=>sc (run_call2_28 rfl (ev T73 x) (ev T78 x) (by kernel_rfl)) ((hh2.out w' hc.m).mono (fun e w'' hq=>⟨hq.1,by rw [← hq.2]; exact hc⟩))
      ·exact opOk3_quiet _ (by intro x t hd _; cases hd; exact T80 x) (fun x=>wanted_of28 rfl rfl (T72 x)) fun x dn w' hd hc=>sv (run_eqlII28 rfl (ev T79 x) rfl) hc
      ·exact oq T81 rfl rfl fun x dn w' hd hc=>sv (run_pickT28 rfl (ev T72 x) (ev T80 x)) hc
      ·exact oq T6 rfl rfl fun x dn w' hd hc=>sv (run_asg rfl (ev T81 x)) hc
     ·intro xb dn w' hd hc
      simp only [putAll,List.foldl_cons,List.foldl_nil,List.cons_append,List.nil_append,Act.put,List.setIfInBounds_toArray,List.set_cons_succ,List.set_cons_zero]
      have hfin:=Lib.hid ((hmr.out.trans hc.m).below (Nat.le_refl _) (fun _ h=>h.elim))
      clear hc hd hB3 how hin hto hrt hri hh1 hh2 hmr hl3
      go_wp2_with fail
      go_ret
      exact ⟨rfl,hfin.out⟩
end
end
end
section
open Go.ChangeShapes Go.WideShapes Go.ChangeAt Go.RowKit
def prV (k:IntKind) (s:Int × Int):List Value:=[.int k s.1,.int k s.2]
end
section
open Go.ChangeShapes Go.WideShapes Go.ChangeAt Go.RowKit
theorem i8_of {n:Int} (h:(Lit.int .i8 n).wf = true):-128≤n∧n < 128:=by
 have:-128≤n∧n≤127:=by simpa [Lit.wf,IntKind.min,IntKind.max,IntKind.signed,IntKind.bits] using h
 omega
theorem arg_prsI {H:Type} {enc:TypeId × Value→H} {W:World} {base:Nat} {v:Value} {d:DataW H} {q:List MemPlace} (hv:Value.okWide Tryz.prog W .any base 71 v) (h:DataW.Trod enc Tryz.prog W 0 (fun _=>true) true 71 v d q):
  ∃ (p:Option Addr) (L:List (Int × Int)) (cap:Nat),v = .slice p L.length cap∧Els W p 2 ((L.take 20).map (prV .i8))∧L.length≤9223372036854775807∧∀ s ∈ L,(-128≤s.1∧s.1 < 128)∧(-128≤s.2∧s.2 < 128):=by
 obtain ⟨a,len,cap0,rfl⟩:=okWide_slice Tryz.underlying71 hv
 obtain ⟨fuel,hf⟩:=h
 obtain ⟨p,L,cap,e,h1,h2,h3,h4⟩:=open_rows (n:=2) ((0,0):Int × Int) (prV .i8) (fun s=>(-128≤s.1∧s.1 < 128)∧(-128≤s.2∧s.2 < 128)) (fun _=>rfl) Tryz.underlying71 (by kernel_rfl) (fun _ _ _ h=>by
  obtain ⟨N,hN⟩:=open_ints Tryz.underlying74 Tryz.underlying73 (by kernel_rfl) h
  have h0:=hN 0 (by omega)
  have h1:=hN 1 (by omega)
  refine ⟨(N 0,N 1),⟨i8_of h0.2,i8_of h1.2⟩,fun j v hj=>?_⟩
  match j with
  | 0=>cases hj; exact h0.1
  | 1=>cases hj; exact h1.1
  | j + 2=>simp [prV] at hj) hf
 have h5:=h1.take 20 (by omega)
 rw [← List.map_take] at h5
 exact ⟨p,L,cap,by simpa [Value.cells] using e,h5,by omega,h4⟩
end
section
section
open Go.RowKit
theorem BoR.st {w0 w:World} {B0:Nat} {t:List Rq} {gB:Nat} {CB:Array Value} {L:List Pc} {d gP cP:Nat} {qK:Option Addr} {cK dd gR:Nat} {F:Nat→Prop} {fls:List (List Ve)} {Rs:List (List Rou2)} {H:List Int} {qF:Option Addr} {cF:Nat} {pf:List (Option Addr × Nat)} {cR:Nat} {pr:List (Option Addr × Nat)} {qss:List (List (Option Addr × Nat))} {qT:Option Addr} {cT:Nat} {qH:Option Addr} {cH:Nat}
  (h:BoR w B0 t gB CB L d gP cP qK cK dd gR F fls Rs H qF cF pf cR pr qss qT cT qH cH) (hb:Below w0.heap.size w0 w) (hB:w0.heap.size≤B0):St28 w0 B0 t fls (L.map (·.b)) d gP cP qK cK gB H.length 0 L H w:=by
 have hlt:=h.blk.lt
 refine ⟨h.pcs,h.dl,h.holds.1,h.len,rfl,fun c hc=>?_,?_,by rw [List.length_map]; exact h.len,⟨hlt,h.lo.2.2.2.1,hB⟩,h.nB,fun a ha hH=>⟨h.loK a ha hH,fun e=>?_⟩,hb⟩
 ·obtain ⟨a1,a2,a3⟩:=h.eq c hc
  refine ⟨?_,a1,by omega⟩
  have hcL:c < L.length:=by rw [h.len]; exact hc
  rw [List.getD_eq_getElem?_getD,List.getD_eq_getElem?_getD,List.getElem?_map,List.getElem?_eq_getElem hcL]
  rfl
 ·have:=h.pls
  rw [List.map_map]
  exact this
 ·obtain ⟨g2,C2,e2,hB2⟩:=h.dl.hb hH
  rw [e2] at ha
  cases ha
  simp only at e
  subst e
  exact blk_ne28 h.blk hB2 (by decide)
end
end
section
section
open Go.RowKit
section
variable {ρ:Operand→Value} {o:Oper} {w:World} {x y z:Operand}
theorem run_ixP28I {a:Addr} {n c k:Nat} (ho:o.op = .indexAddr 71 x y) (hx:ρ x = .slice (some a) n c) (hy:ρ y = .int .i64 k) (hk:k < n):(execOp ρ o).run Tryz.prog w = .ok (.value (.pointer (some (a.add (k * 2))))) w:=by
 have h0:(0:Int)≤(k:Int):=by omega
 have h1:(k:Int) < (n:Int):=by omega
 have h2:((k:Int)).toNat = k:=by omega
 unfold execOp
 simp only [ho,hx,hy]
 go_simp
theorem run_ixQ0I {a:Addr} (ho:o.op = .indexAddr 74 x y) (hx:ρ x = .pointer (some a)) (hy:ρ y = .int .i64 0):(execOp ρ o).run Tryz.prog w = .ok (.value (.pointer (some a))) w:=by
 unfold execOp
 simp only [ho,hx,hy]
 go_simp
theorem run_ixQ1I {a:Addr} (ho:o.op = .indexAddr 74 x y) (hx:ρ x = .pointer (some a)) (hy:ρ y = .int .i64 1):(execOp ρ o).run Tryz.prog w = .ok (.value (.pointer (some ⟨a.block,a.off + 1,none⟩))) w:=by
 unfold execOp
 simp only [ho,hx,hy]
 go_simp
theorem run_i8A {p:Addr} {n:Int} (hc:w.cell? p = some (.int .i8 n)):(loadVar 73 p).run Tryz.prog w = .ok (.int .i8 n) w:=by go_simp
theorem run_cvI8 {n:Int} (ho:o.op = .convert 73 3 x) (hx:ρ x = .int .i8 n) (hn:-128≤n∧n < 128):(execOp ρ o).run Tryz.prog w = .ok (.value (.int .i64 n)) w:=by
 have h1:IntKind.i64.wrap n = n:=IntWalk.i64_in _ (by omega)
 unfold execOp
 simp only [ho,hx]
 go_simp
theorem run_call3_28 {F:FuncId} {T1 T2 T3:TypeId} {a b c:Value} (ho:o.op = .call { callee:=.value (.func F),args:=#[x,y,z],argTypes:=#[T1,T2,T3] }) (hx:ρ x = a) (hy:ρ y = b) (hz:ρ z = c)
  (hF:(callFunc F #[a,b,c]).run Tryz.prog w = .ok (.enter F #[a,b,c]) w) (hf:ρ (.func F) = .func (.func F) #[] #[]:=by rfl):(execOp ρ o).run Tryz.prog w = .ok (.enter F #[a,b,c]) w:=by
 unfold execOp
 simp only [ho]
 go_simp
end
structure DtC (w0 wr:World) (P:World→Prop) (b:Bool) (W:World):Prop where
 lo:Below w0.heap.size w0 W
 m:b = false→Mod (fun _=>False) wr W
 p:b = true→P W
theorem DtC.start {w0 wr W:World} {P:World→Prop} (h:Below w0.heap.size w0 wr) (hm:Mod (fun _=>False) wr W):DtC w0 wr P false W:=
 ⟨h.trans (hm.below h.size (fun _ h=>h.elim)),fun _=>hm,fun h=>by cases h⟩
theorem DtC.op {w0 wr W W':World} {P:World→Prop} (_h:DtC w0 wr P false W) (hP:Hid (∀ W,P W→Below w0.heap.size w0 W)) (h:P W'):DtC w0 wr P true W':=⟨hP.out W' h,(fun h=>by cases h),fun _=>h⟩
theorem BoR.tw {w0 w:World} {B0:Nat} {t:List Rq} {gB:Nat} {CB:Array Value} {L:List Pc} {d gP cP:Nat} {qK:Option Addr} {cK dd gR:Nat} {F:Nat→Prop} {fls:List (List Ve)} {Rs:List (List Rou2)} {H:List Int} {qF:Option Addr} {cF:Nat} {pf:List (Option Addr × Nat)} {cR:Nat} {pr:List (Option Addr × Nat)} {qss:List (List (Option Addr × Nat))} {qT:Option Addr} {cT:Nat} {qH:Option Addr} {cH:Nat}
  (h:BoR w B0 t gB CB L d gP cP qK cK dd gR F fls Rs H qF cF pf cR pr qss qT cT qH cH) (hb:Below w0.heap.size w0 w) (hB:w0.heap.size≤B0) (hsp:∀ a,qH = some a→a = ⟨a.block,0,none⟩) (hlow:∀ k,(F k∨k = gR∨k = dd∨∃ a,qH = some a∧k = a.block)→w0.heap.size≤k):
  Tw28 w0 B0 t fls (L.map (·.b)) d gP cP qK cK gB H.length 0 L H dd gR qF cF pf cR qT cT qH cH F w:=by
 have hl1:(rwsL L).length = L.length:=by unfold rwsL; rw [List.length_map]
 have hRs:rwsL L = Rs:=rows4_ext (by rw [hl1,h.rd.len,h.len]) fun k hk=>by
  rw [hl1,h.len] at hk
  rw [rwsL_at]
  exact (h.eq k hk).2.1
 have hlo:=h.lo
 refine ⟨h.st hb hB,⟨by rw [hRs]; exact ⟨pr,qss,h.rd⟩,rfl,h.hol,fun a ha=>?_⟩,fun k hk=>⟨hlow k hk,?_⟩⟩
 ·obtain ⟨_,h2,h3,h4,h5⟩:=h.loH a ha
  exact ⟨hsp a ha,h2,h3,h4,h5⟩
 ·have hkB:k < B0:=by
   rcases hk with hk | rfl | rfl | ⟨a,ha,rfl⟩
   ·exact hlo.1 k hk
   ·exact hlo.2.1
   ·exact hlo.2.2.1
   ·exact (h.loH a ha).1
  refine ⟨fun p hp hF=>?_,⟨by omega,by omega,by omega⟩,fun a ha h0 e=>?_⟩
  ·have:=(h.pcs.at_ p hp).2.2 k hF
   omega
  ·have:=h.loK a ha h0
   omega
def Dt1 (w0:World) (B:Nat) (t:List Rq) (fls:List (List Ve)) (bs:List Nat) (d gP cP:Nat) (qK:Option Addr) (cK gB Hn dd gR:Nat) (qF:Option Addr) (cF:Nat) (pf:List (Option Addr × Nat)) (cR:Nat) (qT:Option Addr) (cT:Nat) (qH:Option Addr) (cH T:Nat) (s:Value) (wx:World):Prop:=
 ∃ (i:Nat) (L:List Pc) (H:List Int) (F:Nat→Prop),i≤T∧i≤20∧s = .int .i64 (i:Int)∧Tw28 w0 B t fls bs d gP cP qK cK gB Hn i L H dd gR qF cF pf cR qT cT qH cH F wx
theorem DealTells_walk (p pw:Option Addr) (cp cw:Nat) (B W:List Int) (n wd k nn:Int) (pL:Option Addr) (cL:Nat) (l:List (Int × Int)) (w:World) (hA:DrA w p B n wd) (hW:DrA w pw W 0 0) (hnn:0≤nn∧nn < 256) (hE:Els w pL 2 ((l.take 20).map (prV .i8))) (_hbl:l.length≤9223372036854775807) (hrg:∀ s ∈ l,(-128≤s.1∧s.1 < 128)∧(-128≤s.2∧s.2 < 128)):
  Calls Tryz.prog 7 #[.agg (ddC p cp B n wd k pw W cw nn),.slice pL l.length cL] w fun e w'=>e = .returned (.bool true)∧Below w.heap.size w w':=by
 have hbo:=Lib.hid (fun wx (hb:Below w.heap.size w wx)=>both2_calls p pw cp cw B W n wd k nn wx (hA.below hb) (hW.below hb) hnn)
 obtain ⟨C,hC⟩:∃ C,ddC p cp B n wd k pw W cw nn = C:=⟨_,rfl⟩
 have hc6:C.size = 6:=by rw [← hC]; rfl
 rw [hC] at hbo ⊢
 replace hE:=Lib.hid hE
 replace hrg:=Lib.hid hrg
 clear hA hW hnn hC
 go_enter Tryz.func7,Tryz.ntmps7
 go_upto_region 1 with fail
 refine wp_world' (fun wx=>Blk wx w.heap.size C 26∧Below w.heap.size w wx) ⟨Blk.new _ _ _,new_below _ _⟩ ?_
 rintro w1 ⟨hB,hb⟩
 go_wp2_with fail
 refine (works28_calls w1).mono ?_
 rintro e w2 ⟨rfl,hb2⟩
 have hm2:=(Mod.refl (fun _=>False) _).after hb2
 have hB2:=hB.mod hm2 (fun h=>h)
 replace hb2:=hb.trans (hb2.mono hb.size)
 have hl1:=Lib.hid (run_load_row' (P:=Tryz.prog) w2 w.heap.size 26 C 26 _ hB2 Tryz.underlying26 rfl (by rw [hc6]; kernel_rfl))
 have hd1:=hbo.out w2 hb2
 clear hB hb hB2 hbo hm2
 go_wp2_with (refine wpList_load_v rfl 26 _ rfl ⟨w.heap.size,0,none⟩ rfl _ hl1.out ?_)
 refine hd1.mono ?_
 clear hd1 hl1
 intro e w3 hBo
 obtain ⟨hb3,B0,t,gB,cB,CB,L,d,gP,cP,qK,cK,dd,gR,F,fls,Rs,H,qF,cF,pf,cR,pr,qss,qT,cT,qH,cH,hB0,rfl,hR,-,hsp,hlow⟩:=hBo
 have hbw:=hb2.trans (hb3.mono hb2.size)
 have hB0w:w.heap.size≤B0:=Nat.le_trans hb2.size hB0
 have hTw:=hR.tw hbw hB0w hsp (fun k hk=>Nat.le_trans hb2.size (hlow k hk))
 have hn4:=hR.ok.many
 have hH8:=hR.ok.hl
 have ht8:=hR.ok.tl
 rw [hR.len]
 obtain ⟨bs,hbs⟩:∃ bs,L.map (·.b) = bs:=⟨_,rfl⟩
 rw [hbs] at hTw
 obtain ⟨Hn,hHn⟩:∃ Hn,H.length = Hn:=⟨_,rfl⟩
 rw [hHn] at hH8 hTw
 have hsm:=Lib.hid (same28_calls hTw (by omega) (by omega) cB)
 have hSm:=Lib.hid (fun (i:Nat) (L:List Pc) (H:List Int) (F:Nat→Prop) (wx:World) (h:Tw28 w B0 t fls bs d gP cP qK cK gB Hn i L H dd gR qF cF pf cR qT cT qH cH F wx)=>same28_calls h (by omega) (by omega) cB)
 replace hTw:=Lib.hid hTw
 obtain ⟨Ln,hLn⟩:∃ Ln,fls.length = Ln:=⟨_,rfl⟩
 rw [hLn] at hn4 hsm hSm ⊢
 obtain ⟨T,hT⟩:∃ T,l.length = T:=⟨_,rfl⟩
 rw [hT]
 replace hLn:=Lib.hid hLn
 replace hT:=Lib.hid hT
 clear hR hb2 hb3 hbw hbs hHn hsp hlow
 go_wp2_with fail
 refine hsm.out.mono ?_
 clear hsm
 rintro e w4 ⟨rfl,hb4⟩
 have hT4:=Lib.hid (hTw.out.below hb4)
 clear hTw hb4
 go_wp2_with fail
 go_loopw [9] (Dt1 w B0 t fls bs d gP cP qK cK gB Hn dd gR qF cF pf cR qT cT qH cH T) (fun s9 _=>T - (intOf s9).toNat)
 case atStart=>exact ⟨0,L,H,F,Nat.zero_le _,by omega,rfl,hT4.out⟩
 case round=>
  clear hT4
  clear L H F
  obtain ⟨i,L,H,F,hi,hi20,rfl,hTw⟩:=hrel
  have hlo:=Lib.hid hTw.st.lo
  by_cases hlt:i < T∧i < 20
  ·have hiT:(i:Int) < (T:Int):=by omega
   have hi2:(i:Int) < 20:=by omega
   have hi0:(0:Int)≤(i:Int):=by omega
   have s1:IntKind.i64.wrap ((i:Int) + 1) = (i:Int) + 1:=IntWalk.i64_in _ (by omega)
   have hil:i < l.length:=by rw [hT.out]; exact hlt.1
   obtain ⟨a,rfl⟩:=hE.out.some_of (k:=i) (by simp; omega)
   have hc0:=fun wx (hb:Below w.heap.size w wx)=>run_i8A ((by
    have:=(hE.out.below hb).cells a rfl i (prV .i8 l[i]) 0 (.int .i8 l[i].1) (by rw [List.getElem?_map,List.getElem?_take_of_lt hlt.2,List.getElem?_eq_getElem hil]; rfl) rfl
    rw [Nat.add_zero] at this
    exact this:wx.cell? (a.add (i * 2)) = some (.int .i8 l[i].1)))
   have hc1:=fun wx (hb:Below w.heap.size w wx)=>run_i8A ((by
    have:=(hE.out.below hb).cells a rfl i (prV .i8 l[i]) 1 (.int .i8 l[i].2) (by rw [List.getElem?_map,List.getElem?_take_of_lt hlt.2,List.getElem?_eq_getElem hil]; rfl) rfl
    rw [← addr_add_add,addr_one] at this
    exact this:wx.cell? ⟨(a.add (i * 2)).block,(a.add (i * 2)).off + 1,none⟩ = some (.int .i8 l[i].2)))
   have hrg2:=hrg.out _ (List.getElem_mem hil)
   obtain ⟨a0,a1,hxy⟩:∃ x y,l[i] = (x,y):=⟨_,_,rfl⟩
   rw [hxy] at hc0 hc1 hrg2
   dsimp only at hc0 hc1 hrg2
   obtain ⟨h0,h1⟩:=hrg2
   replace hc0:=Lib.hid hc0
   replace hc1:=Lib.hid hc1
   clear hxy hil
   obtain ⟨X,hX⟩:∃ X,sel28 fls t (rwsL L) H a0 a1 = X:=⟨_,rfl⟩
   have hsl1:=fun wx (hm:Mod (fun _=>False) wr wx)=>(hTw.below (hm.below (Nat.le_refl _) (fun _ h=>h.elim))).sell1 (by omega) (by omega) a0 a1
   rw [hX] at hsl1
   obtain ⟨P1,hP1e⟩:∃ P1:World→Prop,P1 = Md28 w B0 t fls bs d gP cP qK cK gB Hn i (rwsL L) H dd gR qF cF pf cR qT cT qH cH F X:=⟨_,rfl⟩
   have hP1:=Lib.hid (show ∀ W,P1 W→Below w.heap.size w W from fun W h=>by rw [hP1e] at h; exact h.lo)
   have hsl2:=Lib.hid (fun wx (h:P1 wx)=>(by
    rw [hP1e] at h
    rw [← hX] at h
    have h2:=h.sell2 a0 a1 (by rw [hLn.out]; omega) (by omega) (by omega)
    rw [hX] at h2
    exact h2:Calls Tryz.prog 24 #[.pointer (some ⟨dd,0,none⟩),.int .i64 a0,.int .i64 a1] wx fun e w2=>e = .returned (.tuple #[.int .i64 X.1,.int .i64 X.2.1])∧∃ L' H' F',Tw28 w B0 t fls bs d gP cP qK cK gB Hn (i + 1) L' H' dd gR qF cF pf cR qT cT qH cH F' w2))
   have hPm:=Lib.hid (show ∀ W W',P1 W→Mod (fun _=>False) W W'→P1 W' from fun W W' h hm=>by rw [hP1e] at h ⊢; exact h.below (hm.below (Nat.le_refl _) (fun _ h=>h.elim)))
   rw [← hP1e] at hsl1
   obtain ⟨y,z,R9,rfl⟩:∃ y z R9,X = (y,z,R9):=⟨_,_,_,rfl⟩
   dsimp only at hsl1 hsl2
   replace hsl1:=Lib.hid hsl1
   clear hX hP1e hTw
   go_upto_region 9 with fail
   refine wp_region_rove (X:=Unit) () (fun x=>[(43,.pointer (some ⟨d,0,none⟩)),(44,.slice (some a) T cL),(45,.int .i64 (i:Int)),(46,.pointer (some (a.add (i * 2)))),(47,.pointer (some (a.add (i * 2)))),(48,.int .i8 a0),(49,.int .i64 a0),(50,.slice (some a) T cL),(51,.int .i64 (i:Int)),(52,.pointer (some (a.add (i * 2)))),(53,.pointer (some ⟨(a.add (i * 2)).block,(a.add (i * 2)).off + 1,none⟩)),(54,.int .i8 a1),(55,.int .i64 a1),(56,.tuple #[.int .i64 y,.int .i64 z]),(42,.tuple #[.int .i64 y,.int .i64 z]),(57,.int .i64 y),(58,.int .i64 z),(10,.int .i64 y),(11,.int .i64 z)])
    (fun x dn W'=>DtC w wr P1 (dn 13) W') (by kernel_rfl) (by kernel_rfl) (by kernel_rfl) (by kernel_rfl) (fun x=>by kernel_rfl)
    (DtC.start hlo.out (Mod.refl _ _).drew) ?_ ?_
   ·intro aF hAF
    have E6:∀ x,(aF x).eval (.tmp 6) = .pointer (some ⟨d,0,none⟩):=by intro x; rw [hAF]; kernel_rfl
    have E1:∀ x,(aF x).eval (.tmp 1) = .slice (some a) T cL:=by intro x; rw [hAF]; kernel_rfl
    have E9:∀ x,(aF x).eval (.tmp 9) = .int .i64 (i:Int):=by intro x; rw [hAF]; kernel_rfl
    have T43:∀ x,(aF x).tmps[43]? = some (.pointer (some ⟨d,0,none⟩)):=by intro x; rw [hAF]; kernel_rfl
    have T44:∀ x,(aF x).tmps[44]? = some (.slice (some a) T cL):=by intro x; rw [hAF]; kernel_rfl
    have T45:∀ x,(aF x).tmps[45]? = some (.int .i64 (i:Int)):=by intro x; rw [hAF]; kernel_rfl
    have T46:∀ x,(aF x).tmps[46]? = some (.pointer (some (a.add (i * 2)))):=by intro x; rw [hAF]; kernel_rfl
    have T47:∀ x,(aF x).tmps[47]? = some (.pointer (some (a.add (i * 2)))):=by intro x; rw [hAF]; kernel_rfl
    have T48:∀ x,(aF x).tmps[48]? = some (.int .i8 a0):=by intro x; rw [hAF]; kernel_rfl
    have T49:∀ x,(aF x).tmps[49]? = some (.int .i64 a0):=by intro x; rw [hAF]; kernel_rfl
    have T50:∀ x,(aF x).tmps[50]? = some (.slice (some a) T cL):=by intro x; rw [hAF]; kernel_rfl
    have T51:∀ x,(aF x).tmps[51]? = some (.int .i64 (i:Int)):=by intro x; rw [hAF]; kernel_rfl
    have T52:∀ x,(aF x).tmps[52]? = some (.pointer (some (a.add (i * 2)))):=by intro x; rw [hAF]; kernel_rfl
    have T53:∀ x,(aF x).tmps[53]? = some (.pointer (some ⟨(a.add (i * 2)).block,(a.add (i * 2)).off + 1,none⟩)):=by intro x; rw [hAF]; kernel_rfl
    have T54:∀ x,(aF x).tmps[54]? = some (.int .i8 a1):=by intro x; rw [hAF]; kernel_rfl
    have T55:∀ x,(aF x).tmps[55]? = some (.int .i64 a1):=by intro x; rw [hAF]; kernel_rfl
    have T56:∀ x,(aF x).tmps[56]? = some (.tuple #[.int .i64 y,.int .i64 z]):=by intro x; rw [hAF]; kernel_rfl
    have T42:∀ x,(aF x).tmps[42]? = some (.tuple #[.int .i64 y,.int .i64 z]):=by intro x; rw [hAF]; kernel_rfl
    have T57:∀ x,(aF x).tmps[57]? = some (.int .i64 y):=by intro x; rw [hAF]; kernel_rfl
    have T58:∀ x,(aF x).tmps[58]? = some (.int .i64 z):=by intro x; rw [hAF]; kernel_rfl
    have T10:∀ x,(aF x).tmps[10]? = some (.int .i64 y):=by intro x; rw [hAF]; kernel_rfl
    have T11:∀ x,(aF x).tmps[11]? = some (.int .i64 z):=by intro x; rw [hAF]; kernel_rfl
    replace hAF:=Lib.hid hAF
    refine ⟨?_,?_,?_,?_,?_,?_,?_,?_,?_,?_,?_,?_,?_,?_,?_,?_,?_,?_,?_,trivial⟩
    ·exact oq T43 rfl rfl fun x dn w' hd hc=>sv (run_mov rfl (E6 x)) hc
    ·exact oq T44 rfl rfl fun x dn w' hd hc=>sv (run_mov rfl (E1 x)) hc
    ·exact oq T45 rfl rfl fun x dn w' hd hc=>sv (run_mov rfl (E9 x)) hc
    ·exact oq T46 rfl rfl fun x dn w' hd hc=>sv (run_ixP28I rfl (ev T44 x) (ev T45 x) hlt.1) hc
    ·exact oq T47 rfl rfl fun x dn w' hd hc=>sv (run_ixQ0I rfl (ev T46 x) rfl) hc
    ·exact oq T48 rfl rfl fun x dn w' hd hc=>sv (run_load1 rfl (ev T47 x) (hc0.out _ hc.lo)) hc
    ·exact oq T49 rfl rfl fun x dn w' hd hc=>sv (run_cvI8 rfl (ev T48 x) h0) hc
    ·exact oq T50 rfl rfl fun x dn w' hd hc=>sv (run_mov rfl (E1 x)) hc
    ·exact oq T51 rfl rfl fun x dn w' hd hc=>sv (run_mov rfl (E9 x)) hc
    ·exact oq T52 rfl rfl fun x dn w' hd hc=>sv (run_ixP28I rfl (ev T50 x) (ev T51 x) hlt.1) hc
    ·exact oq T53 rfl rfl fun x dn w' hd hc=>sv (run_ixQ1I rfl (ev T52 x) rfl) hc
    ·exact oq T54 rfl rfl fun x dn w' hd hc=>sv (run_load1 rfl (ev T53 x) (hc1.out _ hc.lo)) hc
    ·exact oq T55 rfl rfl fun x dn w' hd hc=>sv (run_cvI8 rfl (ev T54 x) h1) hc
    ·exact opOk3_loud rfl fun x dn w' hd hn hc=>by
       have nf:dn 13 = false:=hn 13 (by kernel_rfl)
       rw [nf] at hc
       refine sk (run_call3_28 rfl (ev T43 x) (ev T49 x) (ev T55 x) (by kernel_rfl)) ((hsl1.out w' (hc.m rfl)).mono ?_)
       rintro e w'' ⟨rfl,hM⟩
       exact ⟨_,rfl,x,agree_same _ _,(by intro t hd _; cases hd; exact T56 x),hc.op hP1 hM⟩
    ·exact oq T42 rfl rfl fun x dn w' hd hc=>sv (run_mov rfl (ev T56 x)) hc
    ·exact oq T57 rfl rfl fun x dn w' hd hc=>sv (run_ext rfl (ev T42 x) rfl) hc
    ·exact oq T58 rfl rfl fun x dn w' hd hc=>sv (run_ext rfl (ev T42 x) rfl) hc
    ·exact oq T10 rfl rfl fun x dn w' hd hc=>sv (run_asg rfl (ev T57 x)) hc
    ·exact oq T11 rfl rfl fun x dn w' hd hc=>sv (run_asg rfl (ev T58 x)) hc
   ·intro xb dn w' hd hc
    simp only [putAll,List.foldl_cons,List.foldl_nil,Act.put,List.setIfInBounds_toArray,List.set_cons_succ,List.set_cons_zero]
    have hp1:P1 w':=hc.p (hd 13 (by decide))
    have hlo5:=Lib.hid hc.lo
    clear hd hc hsl1 hlo
    generalize w' = w5 at *
    obtain ⟨P2,hP2e⟩:∃ P2:World→Prop,P2 = fun W=>∃ L' H' F',Tw28 w B0 t fls bs d gP cP qK cK gB Hn (i + 1) L' H' dd gR qF cF pf cR qT cT qH cH F' W:=⟨_,rfl⟩
    have hP2:=Lib.hid (show ∀ W,P2 W→Below w.heap.size w W from fun W h=>by rw [hP2e] at h; obtain ⟨_,_,_,h⟩:=h; exact h.st.lo)
    replace hsl2:=Lib.hid (fun wx (hm:Mod (fun _=>False) w5 wx)=>(by rw [hP2e]; exact hsl2.out wx (hPm.out _ _ hp1 hm):Calls Tryz.prog 24 #[.pointer (some ⟨dd,0,none⟩),.int .i64 a0,.int .i64 a1] wx fun e w2=>e = .returned (.tuple #[.int .i64 y,.int .i64 z])∧P2 w2))
    have hsm2:=Lib.hid (show ∀ W,P2 W→Calls Tryz.prog 23 #[.slice (some ⟨gB,0,none⟩) Ln cB,.pointer (some ⟨d,0,none⟩),.pointer (some ⟨dd,0,none⟩)] W fun e w'=>e = .returned (.bool true)∧P2 w' from fun W h=>by
     rw [hP2e] at h ⊢
     obtain ⟨L',H',F',h⟩:=h
     exact (hSm.out _ _ _ _ _ h).mono fun e w' hh=>⟨hh.1,L',H',F',h.below hh.2⟩)
    replace hP2e:=Lib.hid hP2e
    clear hp1 hPm
    go_upto_region 10 with fail
    refine wp_region_rove (X:=Unit) () (fun x=>[(60,.pointer (some ⟨dd,0,none⟩)),(61,.slice (some a) T cL),(62,.int .i64 (i:Int)),(63,.pointer (some (a.add (i * 2)))),(64,.pointer (some (a.add (i * 2)))),(65,.int .i8 a0),(66,.int .i64 a0),(67,.slice (some a) T cL),(68,.int .i64 (i:Int)),(69,.pointer (some (a.add (i * 2)))),(70,.pointer (some ⟨(a.add (i * 2)).block,(a.add (i * 2)).off + 1,none⟩)),(71,.int .i8 a1),(72,.int .i64 a1),(73,.tuple #[.int .i64 y,.int .i64 z]),(59,.tuple #[.int .i64 y,.int .i64 z]),(74,.int .i64 y),(75,.int .i64 z),(12,.int .i64 y),(13,.int .i64 z)])
     (fun x dn W'=>DtC w w5 P2 (dn 13) W') (by kernel_rfl) (by kernel_rfl) (by kernel_rfl) (by kernel_rfl) (fun x=>by kernel_rfl)
     (DtC.start hlo5.out (Mod.refl _ _).drew) ?_ ?_
    ·intro aF hAF
     have E7:∀ x,(aF x).eval (.tmp 7) = .pointer (some ⟨dd,0,none⟩):=by intro x; rw [hAF]; kernel_rfl
     have E1:∀ x,(aF x).eval (.tmp 1) = .slice (some a) T cL:=by intro x; rw [hAF]; kernel_rfl
     have E9:∀ x,(aF x).eval (.tmp 9) = .int .i64 (i:Int):=by intro x; rw [hAF]; kernel_rfl
     have T60:∀ x,(aF x).tmps[60]? = some (.pointer (some ⟨dd,0,none⟩)):=by intro x; rw [hAF]; kernel_rfl
     have T61:∀ x,(aF x).tmps[61]? = some (.slice (some a) T cL):=by intro x; rw [hAF]; kernel_rfl
     have T62:∀ x,(aF x).tmps[62]? = some (.int .i64 (i:Int)):=by intro x; rw [hAF]; kernel_rfl
     have T63:∀ x,(aF x).tmps[63]? = some (.pointer (some (a.add (i * 2)))):=by intro x; rw [hAF]; kernel_rfl
     have T64:∀ x,(aF x).tmps[64]? = some (.pointer (some (a.add (i * 2)))):=by intro x; rw [hAF]; kernel_rfl
     have T65:∀ x,(aF x).tmps[65]? = some (.int .i8 a0):=by intro x; rw [hAF]; kernel_rfl
     have T66:∀ x,(aF x).tmps[66]? = some (.int .i64 a0):=by intro x; rw [hAF]; kernel_rfl
     have T67:∀ x,(aF x).tmps[67]? = some (.slice (some a) T cL):=by intro x; rw [hAF]; kernel_rfl
     have T68:∀ x,(aF x).tmps[68]? = some (.int .i64 (i:Int)):=by intro x; rw [hAF]; kernel_rfl
     have T69:∀ x,(aF x).tmps[69]? = some (.pointer (some (a.add (i * 2)))):=by intro x; rw [hAF]; kernel_rfl
     have T70:∀ x,(aF x).tmps[70]? = some (.pointer (some ⟨(a.add (i * 2)).block,(a.add (i * 2)).off + 1,none⟩)):=by intro x; rw [hAF]; kernel_rfl
     have T71:∀ x,(aF x).tmps[71]? = some (.int .i8 a1):=by intro x; rw [hAF]; kernel_rfl
     have T72:∀ x,(aF x).tmps[72]? = some (.int .i64 a1):=by intro x; rw [hAF]; kernel_rfl
     have T73:∀ x,(aF x).tmps[73]? = some (.tuple #[.int .i64 y,.int .i64 z]):=by intro x; rw [hAF]; kernel_rfl
     have T59:∀ x,(aF x).tmps[59]? = some (.tuple #[.int .i64 y,.int .i64 z]):=by intro x; rw [hAF]; kernel_rfl
     have T74:∀ x,(aF x).tmps[74]? = some (.int .i64 y):=by intro x; rw [hAF]; kernel_rfl
     have T75:∀ x,(aF x).tmps[75]? = some (.int .i64 z):=by intro x; rw [hAF]; kernel_rfl
     have T12:∀ x,(aF x).tmps[12]? = some (.int .i64 y):=by intro x; rw [hAF]; kernel_rfl
     have T13:∀ x,(aF x).tmps[13]? = some (.int .i64 z):=by intro x; rw [hAF]; kernel_rfl
     replace hAF:=Lib.hid hAF
     refine ⟨?_,?_,?_,?_,?_,?_,?_,?_,?_,?_,?_,?_,?_,?_,?_,?_,?_,?_,?_,trivial⟩
     ·exact oq T60 rfl rfl fun x dn w' hd hc=>sv (run_mov rfl (E7 x)) hc
     ·exact oq T61 rfl rfl fun x dn w' hd hc=>sv (run_mov rfl (E1 x)) hc
     ·exact oq T62 rfl rfl fun x dn w' hd hc=>sv (run_mov rfl (E9 x)) hc
     ·exact oq T63 rfl rfl fun x dn w' hd hc=>sv (run_ixP28I rfl (ev T61 x) (ev T62 x) hlt.1) hc
     ·exact oq T64 rfl rfl fun x dn w' hd hc=>sv (run_ixQ0I rfl (ev T63 x) rfl) hc
     ·exact oq T65 rfl rfl fun x dn w' hd hc=>sv (run_load1 rfl (ev T64 x) (hc0.out _ hc.lo)) hc
     ·exact oq T66 rfl rfl fun x dn w' hd hc=>sv (run_cvI8 rfl (ev T65 x) h0) hc
     ·exact oq T67 rfl rfl fun x dn w' hd hc=>sv (run_mov rfl (E1 x)) hc
     ·exact oq T68 rfl rfl fun x dn w' hd hc=>sv (run_mov rfl (E9 x)) hc
     ·exact oq T69 rfl rfl fun x dn w' hd hc=>sv (run_ixP28I rfl (ev T67 x) (ev T68 x) hlt.1) hc
     ·exact oq T70 rfl rfl fun x dn w' hd hc=>sv (run_ixQ1I rfl (ev T69 x) rfl) hc
     ·exact oq T71 rfl rfl fun x dn w' hd hc=>sv (run_load1 rfl (ev T70 x) (hc1.out _ hc.lo)) hc
     ·exact oq T72 rfl rfl fun x dn w' hd hc=>sv (run_cvI8 rfl (ev T71 x) h1) hc
     ·exact opOk3_loud rfl fun x dn w' hd hn hc=>by
        have nf:dn 13 = false:=hn 13 (by kernel_rfl)
        rw [nf] at hc
        refine sk (run_call3_28 rfl (ev T60 x) (ev T66 x) (ev T72 x) (by kernel_rfl)) ((hsl2.out w' (hc.m rfl)).mono ?_)
        rintro e w'' ⟨rfl,hM⟩
        exact ⟨_,rfl,x,agree_same _ _,(by intro t hd _; cases hd; exact T73 x),hc.op hP2 hM⟩
     ·exact oq T59 rfl rfl fun x dn w' hd hc=>sv (run_mov rfl (ev T73 x)) hc
     ·exact oq T74 rfl rfl fun x dn w' hd hc=>sv (run_ext rfl (ev T59 x) rfl) hc
     ·exact oq T75 rfl rfl fun x dn w' hd hc=>sv (run_ext rfl (ev T59 x) rfl) hc
     ·exact oq T12 rfl rfl fun x dn w' hd hc=>sv (run_asg rfl (ev T74 x)) hc
     ·exact oq T13 rfl rfl fun x dn w' hd hc=>sv (run_asg rfl (ev T75 x)) hc
    ·intro xb dn w' hd hc
     simp only [putAll,List.foldl_cons,List.foldl_nil,Act.put,List.setIfInBounds_toArray,List.set_cons_succ,List.set_cons_zero]
     have hp2:P2 w':=hc.p (hd 13 (by decide))
     clear hd hc hsl2 hlo5
     generalize w' = w6 at *
     have hs6:=Lib.hid (hsm2.out w6 hp2)
     clear hp2 hsm2
     have d1:(y == y) = true:=beq_self_eq_true _
     have d2:(y != y) = false:=by rw [bne,d1]; rfl
     have d3:(z == z) = true:=beq_self_eq_true _
     have d4:(z != z) = false:=by rw [bne,d3]; rfl
     go_wp2_with fail
     refine hs6.out.mono ?_
     clear hs6
     rintro e w7 ⟨rfl,hp7⟩
     have hT7:∃ L' H' F',Tw28 w B0 t fls bs d gP cP qK cK gB Hn (i + 1) L' H' dd gR qF cF pf cR qT cT qH cH F' w7:=by
      rw [hP2e.out] at hp7
      exact hp7
     replace hT7:=Lib.hid hT7
     clear hp7 hP2e hP2
     go_wp2_with fail
     go_roundw
     case rel=>
      obtain ⟨L',H',F',h⟩:=hT7.out
      exact ⟨i + 1,L',H',F',by omega,by omega,by simp,h⟩
     case measure=>simp [intOf]; omega
  ·clear hTw
   by_cases hl:i < T
   ·obtain rfl:i = 20:=by omega
    have hiT:(20:Int) < (T:Int):=by omega
    go_wp2_with fail
    go_ret
    exact ⟨rfl,hlo.out⟩
   ·obtain rfl:T = i:=by omega
    go_wp2_with fail
    go_ret
    exact ⟨rfl,hlo.out⟩
end
end
end Go.Proofs.YtkaoflndbcfodaaGreat
