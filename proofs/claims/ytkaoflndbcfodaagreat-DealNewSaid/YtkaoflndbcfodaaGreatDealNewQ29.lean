/-
  The row 'DealNew': a pack of the texts Dr28, pruned to what the row uses.
-/
import Derived.Test.YtkaoflndbcfodaaGreatDealNewQ27
import Derived.Test.YtkaoflndbcfodaaGreatDealNewQ28
namespace Go.Proofs.YtkaoflndbcfodaaGreat
set_option maxHeartbeats 8000000
set_option maxRecDepth 100000
section
section
open Go.RowKit
def ddC (p:Option Addr) (cp:Nat) (B:List Int) (n wd k:Int) (pw:Option Addr) (W:List Int) (cw:Nat) (nn:Int):Array Value:=#[.slice p B.length cp,.int .u8 n,.int .u8 wd,.int .i64 k,.slice pw W.length cw,.int .u8 nn]
structure DkOk (fls:List (List Ve)) (Rs:List (List Rou2)) (t:List Rq) (H:List Int):Prop where
 many:1≤fls.length∧fls.length≤4
 fl2:∀ c,c < fls.length→1≤(fls.getD c []).length∧(fls.getD c []).length≤2
 new:∀ c,c < fls.length→newC (fls.getD c []) t = 0
 tl:t.length = 8
 hl:H.length≤8
 ok:okH fls t H H.length
 rs:Rs = rsH fls t H H.length
def DdPost (w:World) (e:Ending) (w':World):Prop:=
 Below w.heap.size w w'∧∃ d gR F fls Rs t H qF cF pf cR pr qss qT cT qH cH,e = .returned (.pointer (some ⟨d,0,none⟩))∧RdIn w' F d gR fls Rs t qF cF pf cR pr qss qT cT (.slice qH H.length cH)∧Els w' qH 1 (H.map inV)∧
  (∀ a,qH = some a→w.heap.size≤a.block∧a.block < w'.heap.size∧¬ F a.block∧a.block ≠ gR∧a.block ≠ d∧∃ C,Blk w' a.block C 3)∧(∀ k,F k→w.heap.size≤k)∧w.heap.size≤gR∧w.heap.size≤d∧DkOk fls Rs t H∧∀ a,qH = some a→a = ⟨a.block,0,none⟩
theorem own_one28 {w:World} {g base n:Nat} {E:TypeId} {cs:List Value} (h:Blk w g cs.toArray E) (hg:base≤g) (hl:cs.length = n):w.ownsRow base E n (.slice (some ⟨g,0,none⟩) 1 1) 1 cs:=
 ⟨by rw [hl,Nat.one_mul],.inr ⟨g,1,cs.toArray,rfl,hg,h,Nat.le_refl _,by unfold maxLen; omega,by simp [hl],by simp [List.take_of_length_le (Nat.le_of_eq hl)]⟩⟩
theorem run_bd28 (q:Option Addr) (n c:Nat) (w:World):(Instr.build 40 #[(2,.slice q n c)]).run Tryz.prog w = .ok (.agg #[.slice none 0 0,.slice none 0 0,.slice q n c,.slice none 0 0]) w:=by kernel_rfl
structure MkC (w0:World) (d m:Nat) (vR:Value) (base N:Nat) (xs:List Value) (x:Nat × Nat × Value) (d7 d8 d9 d12:Bool) (W:World):Prop where
 i8:d8 = true→d7 = true
 i9:d9 = true→d8 = true
 m0:d9 = false→Mod (fun _=>False) w0 W
 a:d7 = true→d9 = false→Blk W x.1 (nil28 m).toArray 82∧w0.heap.size≤x.1
 b:d8 = true→d9 = false→Blk W x.2.1 #[.slice (some ⟨x.1,0,none⟩) m m] 106
 o:d9 = true→∃ W1 W2,Mod (fun _=>False) w0 W1∧(Blk W1 x.1 (nil28 m).toArray 82∧w0.heap.size≤x.1)∧W2.ownsRow base 106 1 x.2.2 (N + 1) (xs ++ [.slice (some ⟨x.1,0,none⟩) m m])∧W1.grownBy W2 vR.ownBlock∧W = bif d12 then W2.setCell ⟨d,1,none⟩ x.2.2 else W2
section
variable {w0 W W':World} {d m:Nat} {vR:Value} {base N:Nat} {xs:List Value} {x:Nat × Nat × Value} {d7 d8 d12:Bool}
theorem MkC.start (h:Mod (fun _=>False) w0 W):MkC w0 d m vR base N xs x false false false false W:=
 ⟨(fun h=>by cases h),(fun h=>by cases h),fun _=>h,(fun h=>by cases h),(fun h=>by cases h),(fun h=>by cases h)⟩
theorem MkC.op7 (h:MkC w0 d m vR base N xs x false false false false W):MkC w0 d m vR base N xs (W.heap.size,x.2) true false false false (W.alloc (.cells (nil28 m).toArray 82)):=
 ⟨(fun h=>by cases h),(fun h=>by cases h),fun _=>(h.m0 rfl).alloc _,fun _ _=>⟨Blk.new _ _ _,(h.m0 rfl).size⟩,(fun h=>by cases h),(fun h=>by cases h)⟩
theorem MkC.op8 (h:MkC w0 d m vR base N xs x true false false false W):MkC w0 d m vR base N xs (x.1,W.heap.size,x.2.2) true true false false (W.alloc (.cells #[.slice (some ⟨x.1,0,none⟩) m m] 106)):=
 ⟨fun _=>rfl,(fun h=>by cases h),fun _=>(h.m0 rfl).alloc _,fun _ _=>⟨(h.a rfl rfl).1.alloc _,(h.a rfl rfl).2⟩,fun _ _=>Blk.new _ _ _,(fun h=>by cases h)⟩
theorem MkC.op9 {v':Value} (h:MkC w0 d m vR base N xs x true true false false W) (ho:W'.ownsRow base 106 1 v' (N + 1) (xs ++ [.slice (some ⟨x.1,0,none⟩) m m])) (hg:W.grownBy W' vR.ownBlock):MkC w0 d m vR base N xs (x.1,x.2.1,v') true true true false W':=
 ⟨fun _=>rfl,fun _=>rfl,(fun h=>by cases h),(fun _ h=>by cases h),(fun _ h=>by cases h),fun _=>⟨W,W',h.m0 rfl,h.a rfl rfl,ho,hg,rfl⟩⟩
theorem MkC.op12 (h:MkC w0 d m vR base N xs x true true true false W):MkC w0 d m vR base N xs x true true true true (W.setCell ⟨d,1,none⟩ x.2.2):=by
 obtain ⟨W1,W2,h1,h2,h3,h4,rfl⟩:=h.o rfl
 exact ⟨fun _=>rfl,fun _=>rfl,(fun h=>by cases h),(fun _ h=>by cases h),(fun _ h=>by cases h),fun _=>⟨W1,W,h1,h2,h3,h4,rfl⟩⟩
end
section
variable {ρ:Operand→Value} {o:Oper} {w:World} {x y:Operand}
theorem run_mks28 {n:Nat} (hn:1≤n∧n≤2) (ho:o.op = .makeSlice 106 x y) (hx:ρ x = .int .i64 (n:Int)) (hy:ρ y = .int .i64 (n:Int)):(execOp ρ o).run Tryz.prog w = .ok (.value (.slice (some ⟨w.heap.size,0,none⟩) n n)) (w.alloc (.cells (nil28 n).toArray 82)):=by
 unfold execOp
 simp only [ho,hx,hy,Sem.run_bind,run_mk28 n hn,Result.andThen_ok,Sem.run_pure]
theorem run_bsl28 {ty:TypeId} {v u:Value} {w':World} (ho:o.op = .buildSlice ty 1 #[(0,x)]) (hx:ρ x = v) (hr:(Instr.buildSlice ty 1 #[(0,v)]).run Tryz.prog w = .ok u w'):(execOp ρ o).run Tryz.prog w = .ok (.value u) w':=by
 unfold execOp
 simp only [ho,List.map_toArray,List.map_cons,List.map_nil,hx,Sem.run_bind,hr,Sem.run_pure,Result.andThen_ok]
theorem run_len28 {q:Option Addr} {n c:Nat} (ho:o.op = .call { callee:=.builtin .len,args:=#[x],argTypes:=#[60] }) (hx:ρ x = .slice q n c):(execOp ρ o).run Tryz.prog w = .ok (.value (.int .i64 (n:Int))) w:=by
 unfold execOp
 simp only [ho]
 go_simp
theorem run_st28 {p:Addr} {q:Option Addr} {m c:Nat} {v:Value} (ho:o.op = .store 37 x y) (hx:ρ x = .pointer (some p)) (hy:ρ y = .slice q m c) (hc:w.cell? p = some v) (hf:w.frozen? p = false):
  (execOp ρ o).run Tryz.prog w = .ok .skip (w.setCell p (.slice q m c)):=by
 unfold execOp
 simp only [ho,hx,hy]
 go_simp
end
theorem run_u8_28 {w:World} {p:Addr} {n:Int} (hc:w.cell? p = some (.int .u8 n)):(loadVar 5 p).run Tryz.prog w = .ok (.int .u8 n) w:=by go_simp
theorem rsl_n28 (n:Int) (w:World):(Instr.buildSlice 35 1 #[(0,.int .i64 n)]).run Tryz.prog w = .ok (.slice (some ⟨w.heap.size,0,none⟩) 1 1) (w.alloc (.cells #[.int .i64 n] 3)):=by kernel_rfl
theorem rsl_r28 (q:Option Addr) (n d:Nat) (w:World):(Instr.buildSlice 37 1 #[(0,.slice q n d)]).run Tryz.prog w = .ok (.slice (some ⟨w.heap.size,0,none⟩) 1 1) (w.alloc (.cells #[.slice q n d] 106)):=by kernel_rfl
theorem rsl_f28 (q:Option Addr) (n d:Nat) (w:World):(Instr.buildSlice 36 1 #[(0,.slice q n d)]).run Tryz.prog w = .ok (.slice (some ⟨w.heap.size,0,none⟩) 1 1) (w.alloc (.cells #[.slice q n d] 60)):=by kernel_rfl
theorem r28_el:ElT Tryz.prog 37 106 1 24:=⟨Tryz.underlying37,by kernel_rfl,by kernel_rfl,by kernel_rfl,by omega,by omega⟩
theorem f28_el:ElT Tryz.prog 36 60 1 24:=⟨Tryz.underlying36,by kernel_rfl,by kernel_rfl,by kernel_rfl,by omega,by omega⟩
def Lp1 (w:World) (B0 base d g0 gX:Nat) (C:Array Value) (qT:Option Addr) (dT:Nat) (t:List Rq) (p:Option Addr) (cp:Nat) (B:List Int) (n wd:Int) (NN:Nat) (s6:Value) (wx:World):Prop:=
 ∃ (fls:List (List Ve)) (vF vR:Value) (pf pr:List (Option Addr × Nat)) (k:Int),fls.length≤NN∧s6 = .int .i64 (fls.length:Int)∧(0≤k∧k≤64 + 10 * (fls.length:Int))∧(∀ c,c < fls.length→(1≤(fls.getD c []).length∧(fls.getD c []).length≤2)∧∀ v ∈ fls.getD c [],vehV v = 0)∧
  DrS wx gX p cp B n wd k∧BkIn wx base d g0 gX C qT dT t fls fls vF vR pf pr∧Below B0 w wx∧base≤wx.heap.size
def Lp2 (w:World) (d gR g0:Nat) (C:Array Value) (fls:List (List Ve)) (t:List Rq) (qF:Option Addr) (cF:Nat) (pf:List (Option Addr × Nat)) (cR:Nat) (qT:Option Addr) (dT:Nat) (s8:Value) (wx:World):Prop:=
 ∃ (H:List Int) (F:Nat→Prop) (pr:List (Option Addr × Nat)) (qss:List (List (Option Addr × Nat))) (qH:Option Addr) (cH:Nat),H.length≤8∧s8 = .int .i64 (H.length:Int)∧okH fls t H H.length∧RdIn wx F d gR fls (rsH fls t H H.length) t qF cF pf cR pr qss qT dT (.slice qH H.length cH)∧
  wx.ownsRow (d + 1) 3 1 (.slice qH H.length cH) H.length (H.map inV).flatten∧(∀ k,F k→w.heap.size≤k)∧TyF wx F (d + 1)∧Blk wx g0 C 26∧Below w.heap.size w wx∧d + 1≤wx.heap.size
section
variable {w wx:World} {d gR g0:Nat} {C:Array Value} {fls:List (List Ve)} {t:List Rq} {qF:Option Addr} {cF:Nat} {pf:List (Option Addr × Nat)} {cR:Nat} {qT:Option Addr} {dT:Nat} {s8:Value}
theorem Lp2.below {wy:World} (h:Lp2 w d gR g0 C fls t qF cF pf cR qT dT s8 wx) (hb:Below wx.heap.size wx wy):Lp2 w d gR g0 C fls t qF cF pf cR qT dT s8 wy:=by
 obtain ⟨H,F,pr,qss,qH,cH,h1,h2,h3,h4,h5,h6,h7,h8,h9,h10⟩:=h
 have hm:=(Mod.refl (fun _=>False) wx).after hb
 exact ⟨H,F,pr,qss,qH,cH,h1,h2,h3,h4.below hb,own_mod h5 hm (fun _ _ h=>h),h6,h7.mod hm (fun _ h=>h.elim),h8.mod hm (fun h=>h),h9.trans (hb.mono h9.size),Nat.le_trans h10 hm.size⟩
theorem Lp2.post (h:Lp2 w d gR g0 C fls t qF cF pf cR qT dT s8 wx) (hn:1≤fls.length∧fls.length≤4) (hf2:∀ c,c < fls.length→1≤(fls.getD c []).length∧(fls.getD c []).length≤2) (hN:∀ c,c < fls.length→newC (fls.getD c []) t = 0) (ht:t.length = 8) (hgR:w.heap.size≤gR) (hd:w.heap.size≤d):DdPost w (.returned (.pointer (some ⟨d,0,none⟩))) wx:=by
 obtain ⟨H,F,pr,qss,qH,cH,h1,h2,h3,h4,h5,h6,h7,h8,h9,h10⟩:=h
 obtain ⟨e1,_,_,e4⟩:=own_els (R:=H.map inV) (inV_lenD H) (by rw [List.length_map]; exact h5) (by rw [List.length_map]; omega)
 refine ⟨h9,d,gR,F,fls,_,t,H,qF,cF,pf,cR,pr,qss,qT,dT,qH,cH,rfl,h4,e1,fun a ha=>?_,h6,hgR,hd,⟨hn,hf2,hN,ht,h1,h3,rfl⟩,fun a ha=>by
  rcases h5.2 with ⟨hv,_⟩ | ⟨g,cap,cur,hv,_⟩
  ·injection hv with e1 _ _; rw [e1] at ha; cases ha
  ·injection hv with e1 _ _; rw [e1] at ha; cases ha; rfl⟩
 obtain ⟨C1,hB⟩:=own_blkB h5 ha
 obtain ⟨C2,hB2⟩:=h4.tb
 have:=(e4 a ha).1
 exact ⟨by omega,(e4 a ha).2.1,h7.own h5 (Nat.le_refl _) a ha,blk_neD hB hB2 (by decide),by omega,C1,hB⟩
end
theorem DrS.mod8 {w w':World} {g:Nat} {p:Option Addr} {c:Nat} {B:List Int} {n wd k:Int} (h:DrS w g p c B n wd k) {S:Nat→Prop} (hm:Mod S w w') (hg:¬ S g) {m:Nat} (hlo:∀ (i:Nat) (b:Int),B[i]? = some b→∃ a,p = some a∧a.block < m) (hS:∀ k,S k→m≤k):DrS w' g p c B n wd k:=
 ⟨h.blk.mod hm hg,fun i b hb=>by
  obtain ⟨a,ha,hne,hc⟩:=h.els i b hb
  obtain ⟨a',ha',hl⟩:=hlo i b hb
  rw [ha] at ha'
  cases ha'
  exact ⟨a,ha,hne,hm.cell_of (fun e=>by have:=hS _ e; rw [add_block] at this; omega) hc⟩,h.rng,h.len,h.nb,h.wb⟩
def Md1 (w:World) (B0 base d g0 gX:Nat) (C:Array Value) (qT:Option Addr) (dT:Nat) (t:List Rq) (p:Option Addr) (cp:Nat) (B:List Int) (n wd:Int) (fls:List (List Ve)) (vF vR:Value) (pf pr:List (Option Addr × Nat)) (k:Int) (s7:Value) (wx:World):Prop:=
 ∃ (fl:List Ve) (q:Option Addr) (dq:Nat) (k':Int),s7 = .slice q fl.length dq∧(1≤fl.length∧fl.length≤2)∧(∀ v ∈ fl,vehV v = 0)∧(0≤k'∧k'≤k + 10)∧
  DrS wx gX p cp B n wd k'∧BkIn wx base d g0 gX C qT dT t fls fls vF vR pf pr∧Below B0 w wx∧base≤wx.heap.size∧∃ gB,base≤gB∧wx.ownsRow gB 59 5 (.slice q fl.length dq) fl.length (fl.map veR).flatten
theorem ddeal_calls (p pw:Option Addr) (cp cw:Nat) (B W:List Int) (n wd k nn:Int) (w:World) (hA:DrA w p B n wd) (hW:DrA w pw W 0 0) (hnn:0≤nn∧nn < 256):
  Calls Tryz.prog 26 #[.agg (ddC p cp B n wd k pw W cw nn)] w (DdPost w):=by
 have hnb:=hA.nb
 have e1:=Int.emod_nonneg nn (show (4:Int) ≠ 0 by omega)
 have e2:=Int.emod_lt_of_pos nn (show (0:Int) < 4 by omega)
 obtain ⟨NN,hNN⟩:∃ NN:Nat,NN = (nn % 4).toNat + 1:=⟨_,rfl⟩
 have hNI:(NN:Int) = nn % 4 + 1:=by omega
 have hN4:1≤NN∧NN≤4:=by omega
 clear hNN
 obtain ⟨C,hC⟩:∃ C,ddC p cp B n wd k pw W cw nn = C:=⟨_,rfl⟩
 have g0:C[0]? = some (.slice p B.length cp):=by rw [← hC]; rfl
 have g1:C[1]? = some (.int .u8 n):=by rw [← hC]; rfl
 have g2:C[2]? = some (.int .u8 wd):=by rw [← hC]; rfl
 have g4:C[4]? = some (.slice pw W.length cw):=by rw [← hC]; rfl
 have g5:C[5]? = some (.int .u8 nn):=by rw [← hC]; rfl
 rw [hC]
 have hpre:=Lib.hid (show Blk (w.alloc (.cells C 26)) w.heap.size C 26∧DrA (w.alloc (.cells C 26)) p B n wd∧Below w.heap.size w (w.alloc (.cells C 26))∧(w.alloc (.cells C 26)).heap.size = w.heap.size + 1 from
  ⟨Blk.new _ _ _,hA.below (new_below _ _),new_below _ _,by simp⟩)
 have hc6:C.size = 6:=by rw [← hC]; rfl
 replace hW:=Lib.hid hW
 have hA0:=Lib.hid hA
 clear hA hC
 go_enter Tryz.func26,Tryz.ntmps26
 go_upto_region 1 with fail
 refine wp_world' (fun wx=>Blk wx w.heap.size C 26∧DrA wx p B n wd∧Below w.heap.size w wx∧wx.heap.size = w.heap.size + 1) hpre.out ?_
 clear hpre
 rintro w1 ⟨hB,hD,hb,hz⟩
 have k0:=hB.cell g0
 have k1:=hB.cell g1
 have k2:=hB.cell g2
 have hS:=hD.box cp 0
 rw [hz] at hS
 have hpre:=Lib.hid (show DrS (w1.alloc (.cells (drC p cp B n wd 0) 24)) (w.heap.size + 1) p cp B n wd 0∧Blk (w1.alloc (.cells (drC p cp B n wd 0) 24)) w.heap.size C 26∧Below w.heap.size w (w1.alloc (.cells (drC p cp B n wd 0) 24))∧w.heap.size + 2≤(w1.alloc (.cells (drC p cp B n wd 0) 24)).heap.size from
  ⟨hS,hB.alloc _,hb.alloc (by omega) _,by simp; omega⟩)
 replace hz:=Lib.hid hz
 clear hB hD hb hS
 go_upto_region 2 with (refine wpList_store_new rfl 24 _ _ rfl rfl rfl _ (drC p cp B n wd 0) _ rfl rfl (by simp [drC,Value.oneCell']) (by kernel_rfl) ?_)
 rw [hz.out]
 refine wp_world' (fun wx=>DrS wx (w.heap.size + 1) p cp B n wd 0∧Blk wx w.heap.size C 26∧Below w.heap.size w wx∧w.heap.size + 2≤wx.heap.size) hpre.out ?_
 clear hpre k0 k1 k2 hz
 rintro w2 ⟨hS,hB,hb,hz⟩
 have k5:=hB.cell g5
 have hT:=Lib.hid (drequests_calls (w.heap.size + 1) p cp B n wd 0 8 w2 hS (by omega) (by omega))
 rw [Int.zero_add] at hT
 replace hB:=Lib.hid hB
 replace hb:=Lib.hid hb
 replace hz:=Lib.hid hz
 clear hS
 go_upto_region 3 with fail
 clear k5
 go_wp2_with fail
 refine hT.out.mono ?_
 rintro e w3 ⟨⟨qT,dT,rfl,hdT,hdT2,hET,hqT⟩,hS3,hM3⟩
 have hTl:=drT_len B wd 0 8
 have hT0:∀ q ∈ drT B wd 0 8,rqE q = 0:=fun q hq=>by
  unfold drT at hq
  obtain ⟨i,hi,rfl⟩:=List.mem_map.1 hq
  have:=List.mem_range.1 hi
  exact drR_okP _ _ _ _ (by omega)
 generalize drT B wd 0 8 = t at *
 have hb3:=hb.out.trans (hM3.below hb.out.size (fun k h=>by have:k = w.heap.size + 1:=h; omega))
 have hB3:=hB.out.mod hM3 (by omega)
 have hz3:=Nat.le_trans hz.out hM3.size
 have hqT':∀ a,qT = some a→w.heap.size + 2≤a.block:=fun a ha=>Nat.le_trans hz.out (hqT a ha)
 have hTB:∀ a,qT = some a→a.block < w3.heap.size:=fun a ha=>by
  have hc:=hET.cells a ha 0 (rqV t[0]) 0 (.int .i64 (t[0] 0)) (by rw [List.getElem?_map,List.getElem?_eq_getElem (by omega)]; rfl) rfl
  have:=World.block_lt_of_cell? _ _ hc
  rwa [add_block] at this
 have hBox:=Blk.new w3 #[.slice none 0 0,.slice none 0 0,.slice qT t.length dT,.slice none 0 0] 40
 have hbd:=run_bd28 qT t.length dT w3
 have hpre:=Lib.hid (show DrS (w3.alloc (.cells #[.slice none 0 0,.slice none 0 0,.slice qT t.length dT,.slice none 0 0] 40)) (w.heap.size + 1) p cp B n wd (8 * ((8:Nat):Int))∧BkIn (w3.alloc (.cells #[.slice none 0 0,.slice none 0 0,.slice qT t.length dT,.slice none 0 0] 40)) (w3.heap.size + 1) w3.heap.size w.heap.size (w.heap.size + 1) C qT dT t [] [] (.slice none 0 0) (.slice none 0 0) [] []∧
   Below w.heap.size w (w3.alloc (.cells #[.slice none 0 0,.slice none 0 0,.slice qT t.length dT,.slice none 0 0] 40))∧w3.heap.size + 1≤(w3.alloc (.cells #[.slice none 0 0,.slice none 0 0,.slice qT t.length dT,.slice none 0 0] 40)).heap.size from
  ⟨hS3.mod ((Mod.refl _ _).alloc _),⟨⟨hB3.alloc _,els_modP hET ((Mod.refl (fun _=>False) _).alloc _) (fun _ _ _ h=>h),by omega,fun a ha=>⟨by have:=hTB a ha; omega,by have:=hTB a ha; omega,by have:=hqT' a ha; omega⟩,fun c hc=>by simp at hc,fun c hc=>by simp at hc,rfl,rfl⟩,hBox,World.ownsRow_nil _ _ _ _,World.ownsRow_nil _ _ _ _⟩,
   hb3.alloc hb3.size _,by simp⟩)
 rw [hTl] at hbd ⊢
 have hqB:=Lib.hid (fun (a:Addr) (ha:qT = some a)=>(by have:=hqT' a ha; omega:w.heap.size≤a.block))
 have hdB:=Lib.hid (show w.heap.size≤w3.heap.size from hb3.size)
 have hz4:=Lib.hid hz3
 clear hT hB hb hz hM3 hqT hqT' hTB hBox hET hS3 hb3 hB3 hz3
 go_upto_region 4 with fail
 clear hbd
 obtain ⟨d,hd⟩:∃ d,w3.heap.size = d:=⟨_,rfl⟩
 refine wp_world' (fun wx=>DrS wx (w.heap.size + 1) p cp B n wd (8 * ((8:Nat):Int))∧BkIn wx (w3.heap.size + 1) w3.heap.size w.heap.size (w.heap.size + 1) C qT dT t [] [] (.slice none 0 0) (.slice none 0 0) [] []∧Below w.heap.size w wx∧w3.heap.size + 1≤wx.heap.size) (by have:=hpre.out; rw [hTl] at this; exact this) ?_
 clear hpre
 rw [hd] at hdB hz4 ⊢
 rintro w4 ⟨hS4,hK4,hb4,hz5⟩
 clear hd
 go_wp2_with fail
 go_loopw [6] (Lp1 w w.heap.size (d + 1) d w.heap.size (w.heap.size + 1) C qT dT t p cp B n wd NN) (fun s6 _=>NN - (intOf s6).toNat)
 case atStart=>exact ⟨[],_,_,[],[],_,by simp,rfl,by simp,fun c hc=>by simp at hc,hS4,hK4,hb4,hz5⟩
 case round=>
  clear hS4 hK4 hb4 hz5
  obtain ⟨fls,vF,vR,pf,pr,kk,hfl,rfl,hkk,hok,hS,hK,hb,hbs⟩:=hrel
  by_cases hlt:fls.length < NN
  ·have hltI:(fls.length:Int) < nn % 4 + 1:=by omega
   obtain ⟨c,hc⟩:∃ c,fls.length = c:=⟨_,rfl⟩
   rw [hc] at hfl hkk hlt hltI ⊢
   have hc4:c≤3:=by omega
   have s1:IntKind.i64.wrap ((c:Int) + 1) = (c:Int) + 1:=IntWalk.i64_in _ (by omega)
   have s2:IntKind.i64.wrap (2 + (c:Int)) = 2 + (c:Int):=IntWalk.i64_in _ (by omega)
   have k5:=hK.a.blkC.cell g5
   have hv1:=dvehicle_calls (w.heap.size + 1) p cp B n wd kk wr hS (by omega)
   replace hok:=Lib.hid hok
   replace hK:=Lib.hid hK
   replace hb:=Lib.hid hb
   replace hbs:=Lib.hid hbs
   replace hc:=Lib.hid hc
   clear hS
   go_upto_region 7 with fail
   go_wp2_with fail
   refine hv1.mono ?_
   clear hv1
   rintro e w5 ⟨rfl,hS5,hM5⟩
   have hX0:=drV_okP B kk
   generalize drV B kk = X at *
   have hpre:=Lib.hid (show DrS (w5.alloc (.cells (veR X).toArray 59)) (w.heap.size + 1) p cp B n wd (kk + 5)∧BkIn (w5.alloc (.cells (veR X).toArray 59)) (d + 1) d w.heap.size (w.heap.size + 1) C qT dT t fls fls vF vR pf pr∧Below w.heap.size w (w5.alloc (.cells (veR X).toArray 59))∧d + 1≤(w5.alloc (.cells (veR X).toArray 59)).heap.size∧
    (w5.alloc (.cells (veR X).toArray 59)).ownsRow w5.heap.size 59 5 (.slice (some ⟨w5.heap.size,0,none⟩) 1 1) 1 (veR X) from by
    have h1:=hbs.out
    have h2:=hM5.size
    have h3:=hb.out.trans (hM5.below hb.out.size (fun k h=>by have:k = w.heap.size + 1:=h; omega))
    exact ⟨hS5.mod ((Mod.refl _ _).alloc _),(hK.out.low hM5).quiet ((Mod.refl _ _).alloc _),h3.alloc h3.size _,by simp; omega,own_one28 (Blk.new _ _ _) (Nat.le_refl _) rfl⟩)
   have hfl7:=Lib.hid (fun c (hc:c < fls.length) a (ha:(pf.getD c (none,0)).1 = some a)=>(by obtain ⟨_,C,hB⟩:=((hK.out.low hM5).a.flt c hc).2 a ha; exact hB.lt:a.block < w5.heap.size))
   have hd7:=Lib.hid (show d + 1≤w5.heap.size from Nat.le_trans hbs.out hM5.size)
   clear hM5 hS5 hK hb hbs
   go_upto_region 8 with (refine wpList_bs1 rfl 60 1 0 _ rfl (.agg (veR X).toArray) rfl _ _ (rsl_ve X _) ?_)
   obtain ⟨g7,hg7⟩:∃ g7,w5.heap.size = g7:=⟨_,rfl⟩
   refine wp_world' (fun wx=>DrS wx (w.heap.size + 1) p cp B n wd (kk + 5)∧BkIn wx (d + 1) d w.heap.size (w.heap.size + 1) C qT dT t fls fls vF vR pf pr∧Below w.heap.size w wx∧d + 1≤wx.heap.size∧wx.ownsRow w5.heap.size 59 5 (.slice (some ⟨w5.heap.size,0,none⟩) 1 1) 1 (veR X)) hpre.out ?_
   clear hpre
   rw [hg7] at hfl7 hd7 ⊢
   clear hg7
   rintro w6 ⟨hS,hK,hb,hbs,hO⟩
   have k5:=hK.a.blkC.cell g5
   replace hS:=Lib.hid hS
   replace hK:=Lib.hid hK
   replace hb:=Lib.hid hb
   replace hbs:=Lib.hid hbs
   replace hO:=Lib.hid hO
   go_upto_if 45 with fail
   clear k5
   generalize ((nn / 2 ^ (2 + c)).tmod 2 == 1) = b2
   go_cut [7] from 46 to 49 (Md1 w w.heap.size (d + 1) d w.heap.size (w.heap.size + 1) C qT dT t p cp B n wd fls vF vR pf pr kk)
   case first=>
    cases b2
    ·go_wp2_with fail
     go_meet
     exact ⟨[X],_,_,kk + 5,rfl,by simp,fun v hv=>by rw [List.mem_singleton] at hv; rw [hv]; exact hX0,by omega,hS.out,hK.out,hb.out,hbs.out,g7,hd7.out,by simpa using hO.out⟩
    ·have hv1:=dvehicle_calls (w.heap.size + 1) p cp B n wd (kk + 5) w6 hS.out (by omega)
     have hX1:=drV_okP B (kk + 5)
     generalize drV B (kk + 5) = Z at *
     clear hS
     go_wp2_with fail
     refine hv1.mono ?_
     clear hv1
     rintro e w7 ⟨rfl,hS7,hM7⟩
     have h1:=hbs.out
     have h2:=hM7.size
     have h3:=hb.out.trans (hM7.below hb.out.size (fun k h=>by have:k = w.heap.size + 1:=h; omega))
     have hlo:=hK.out.a.lo
     have hOA:=Lib.hid (own_mod (own_mod hO.out hM7 (fun k hk e=>by have:=(own_blk_lt hO.out hk).1; have:=hd7.out; omega)) ((Mod.refl (fun _=>False) w7).alloc (.cells (veR Z).toArray 59)) (fun _ _ h=>h))
     have hKA:=Lib.hid (((hK.out.low hM7).quiet ((Mod.refl (fun _=>False) _).alloc (.cells (veR Z).toArray 59))))
     have hSA:=Lib.hid (hS7.mod ((Mod.refl (fun _=>False) _).alloc (.cells (veR Z).toArray 59)))
     have hlow:=Lib.hid (h3.alloc h3.size (.cells (veR Z).toArray 59))
     have hg7:=hO.out.lt g7 rfl
     have hzA:=Lib.hid (show g7≤(w7.alloc (.cells (veR Z).toArray 59)).heap.size from by simp; omega)
     clear hO hK hb hbs hM7 hS7 h1 h2 h3
     go_wp2_with (first | (refine wpList_bs1 rfl 60 1 0 _ rfl (.agg (veR Z).toArray) rfl _ _ (rsl_ve Z _) ?_) |
      (refine wpList_appG ve_el rfl _ _ rfl g7 hzA.out _ 1 _ rfl hOA.out (by omega) ⟨w7.heap.size,0,none⟩ 1 1 (veR Z) rfl rfl (by omega) (row_cells (Blk.new w7 _ _)) (by simp [veR,Value.oneCell']) ?_; intro v8 w8 hO8 hg8))
     obtain ⟨q8,m8,d8,rfl⟩:=own_isS hO8
     obtain rfl:2 = m8:=by have:=own_lenC hO8; omega
     have hm8:Mod (fun g'=>(Value.slice (some ⟨g7,0,none⟩) 1 1).ownBlock = some g') _ w8:=(Mod.refl _ _).grown hg8 (fun _ h _=>h)
     have hlt7:=fun k hk=>(own_blk_lt hOA.out (g:=k) hk).1
     have hK8:BkIn w8 (d + 1) d w.heap.size (w.heap.size + 1) C qT dT t fls fls vF vR pf pr:=hKA.out.apart hOA.out hd7.out hfl7.out hm8
     have hS8:=hSA.out.mod8 hm8 (fun e=>by have:=hlt7 _ e; have:=hd7.out; omega) (fun i b hb=>by
      obtain ⟨a,ha,hc⟩:=hA0.out.els i b hb
      exact ⟨a,ha,by have:=World.block_lt_of_cell? _ _ hc; rw [add_block] at this; exact this⟩) (fun k hk=>by have:=hlt7 _ hk; have:=hd7.out; have:=hdB.out; omega)
     have hb8:=grown_low hlow.out (by have:=hd7.out; have:=hdB.out; omega:w.heap.size≤g7) (Nat.le_refl _) hOA.out hg8
     have hz8:d + 1≤w8.heap.size:=Nat.le_trans (Nat.le_trans hd7.out hzA.out) hg8.size
     replace hS8:=Lib.hid hS8
     replace hK8:=Lib.hid hK8
     replace hb8:=Lib.hid hb8
     replace hO8:=Lib.hid hO8
     clear hOA hKA hSA hlow hzA hm8 hlt7 hg8 hg7
     go_wp2_with fail
     go_meet
     exact ⟨[X,Z],_,_,kk + 5 + 5,rfl,by simp,fun v hv=>by
      rcases List.mem_cons.1 hv with rfl | hv
      ·exact hX0
      ·rw [List.mem_singleton] at hv; rw [hv]; exact hX1,by omega,hS8.out,hK8.out,hb8.out,hz8,g7,hd7.out,by simpa using hO8.out⟩
   case rest=>
   clear hS hK hb hbs hO hfl7 hd7 hX0
   obtain ⟨fl,q,dq,k',rfl,hf2,hfv,hk',hS,hK,hb,hbs,gB,hgB,hO⟩:=hcut
   obtain ⟨pF,mF,cF,rfl⟩:=own_isS hK.vFo
   obtain ⟨hE,-,-,h4⟩:=own_els (R:=fl.map veR) (veR_lenP fl) (by rw [List.length_map]; exact hO) (by rw [List.length_map]; omega)
   have hq1:∀ a,q = some a→d + 1≤a.block∧∃ C,Blk wc a.block C 59:=fun a ha=>⟨Nat.le_trans hgB (h4 a ha).1,own_blkB hO ha⟩
   have hEA:=els_modP hE ((Mod.refl (fun _=>False) wc).alloc (.cells #[.slice q fl.length dq] 60)) (fun _ _ _ h=>h)
   have hqA:∀ a,q = some a→d + 1≤a.block∧∃ C,Blk (wc.alloc (.cells #[.slice q fl.length dq] 60)) a.block C 59:=fun a ha=>by
    obtain ⟨h1,C,hB⟩:=hq1 a ha
    exact ⟨h1,C,hB.alloc _⟩
   have hKA:=hK.quiet ((Mod.refl (fun _=>False) wc).alloc (.cells #[.slice q fl.length dq] 60))
   have hSA:=hS.mod ((Mod.refl (fun _=>False) wc).alloc (.cells #[.slice q fl.length dq] 60))
   have hbA:=hb.alloc hb.size (.cells #[.slice q fl.length dq] 60)
   have hadd:=Lib.hid (fun (v8:Value) (w8:World) (h1:w8.ownsRow (d + 1) 60 1 v8 (fls.length + 1) ((hdV fls pf).flatten ++ [.slice q fl.length dq])) (h2:(wc.alloc (.cells #[.slice q fl.length dq] 60)).grownBy w8 (Value.slice pF mF cF).ownBlock)=>hKA.addF hEA hqA h1 h2)
   have hOA:=Lib.hid hKA.vFo
   have hzA:=Lib.hid (show d + 1≤(wc.alloc (.cells #[.slice q fl.length dq] 60)).heap.size from by simp; omega)
   have kF:=hK.box.cell (i:=0) (v:=.slice pF mF cF) rfl
   have hf3:fls.length≤100000:=by have:=hc.out; omega
   have hbxA:=Lib.hid hKA.box
   have hSA':=Lib.hid hSA
   have hbA':=Lib.hid hbA
   have hlo:=Lib.hid hKA.a.lo
   clear hS hK hb hbs hO hE h4 hq1 hEA hqA hKA hSA hbA
   go_upto_region 11 with (first | (refine wpList_bs1 rfl 36 1 0 _ rfl (.slice q fl.length dq) rfl _ _ (rsl_f28 _ _ _ _) ?_) |
    (refine wpList_appG f28_el rfl _ _ rfl (d + 1) hzA.out _ fls.length _ rfl hOA.out hf3 ⟨wc.heap.size,0,none⟩ 1 1 [.slice q fl.length dq] rfl rfl (by omega) (row_cells (Blk.new wc _ _)) (by simp [Value.oneCell']) ?_; intro v8 w8 hO8 hg8; obtain ⟨q8,m8,d8,rfl⟩:=own_isS hO8; have hK9:=Lib.hid (hadd.out _ w8 hO8 hg8); have hbx8:=grown_blk hbxA.out hOA.out (Nat.lt_succ_self d) hg8; have kd8:=hbx8.cell (i:=0) rfl; have fd8:=hbx8.froz 0; have hz8:=Lib.hid (Nat.le_trans hzA.out hg8.size); clear hO8 hg8 hbx8))
   have hpre:=Lib.hid (show DrS (w8.setCell ⟨d,0,none⟩ (.slice q8 m8 d8)) (w.heap.size + 1) p cp B n wd k'∧BkIn (w8.setCell ⟨d,0,none⟩ (.slice q8 m8 d8)) (d + 1) d w.heap.size (w.heap.size + 1) C qT dT t (fls ++ [fl]) fls (.slice q8 m8 d8) vR (pf ++ [(q,dq)]) pr∧Below w.heap.size w (w8.setCell ⟨d,0,none⟩ (.slice q8 m8 d8))∧d + 1≤(w8.setCell ⟨d,0,none⟩ (.slice q8 m8 d8)).heap.size from by
    obtain ⟨h1,h2⟩:=hK9.out
    have h3:=hlo.out
    have h4:=hdB.out
    exact ⟨hSA'.out.mod8 h2 (by omega) (fun i b hb=>by
     obtain ⟨a,ha,hc⟩:=hA0.out.els i b hb
     exact ⟨a,ha,by have:=World.block_lt_of_cell? _ _ hc; rw [add_block] at this; exact this⟩) (fun k hk=>by omega),h1,hbA'.out.trans (h2.below hbA'.out.size (fun k hk=>by omega)),Nat.le_trans hzA.out h2.size⟩)
   clear hK9 kd8 fd8 hz8 hOA hzA hbxA hSA' hbA' hadd kF
   refine wp_world' (fun wx=>DrS wx (w.heap.size + 1) p cp B n wd k'∧BkIn wx (d + 1) d w.heap.size (w.heap.size + 1) C qT dT t (fls ++ [fl]) fls (.slice q8 m8 d8) vR (pf ++ [(q,dq)]) pr∧Below w.heap.size w wx∧d + 1≤wx.heap.size) hpre.out ?_
   clear hpre
   rintro w9 ⟨hS9,hK9,hb9,hbs9⟩
   obtain ⟨pR,mR,cR,rfl⟩:=own_isS hK9.vRo
   have hRl:=Lib.hid (fun (wx:World) (h:Mod (fun _=>False) w9 wx)=>run_cR28 ((hK9.box.mod h (fun h=>h)).cell (i:=1) rfl))
   have hO9:=Lib.hid hK9.vRo
   have hBx:=Lib.hid (fun (W1 W2:World) (h1:Mod (fun _=>False) w9 W1) (h2:W1.grownBy W2 (Value.slice pR mR cR).ownBlock)=>(by
    have:=grown_blk (hK9.box.mod h1 (fun h=>h)) (own_mod hO9.out h1 (fun _ _ h=>h)) (Nat.lt_succ_self d) h2
    exact ⟨this.cell (i:=1) rfl,this.froz 1⟩:W2.cell? ⟨d,1,none⟩ = some (.slice pR mR cR)∧W2.frozen? ⟨d,1,none⟩ = false))
   obtain ⟨m,hm⟩:∃ m,fl.length = m:=⟨_,rfl⟩
   rw [hm] at hf2 ⊢
   have hm12:=hf2
   have hN9:=hf3
   replace hm:=Lib.hid hm
   replace hS9:=Lib.hid hS9
   replace hK9:=Lib.hid hK9
   replace hb9:=Lib.hid hb9
   replace hbs9:=Lib.hid hbs9
   refine wp_region_rove (X:=Nat × Nat × Value) (0,0,undef) (fun x=>[(60,.pointer (some ⟨d,0,none⟩)),(61,.pointer (some ⟨d,0,none⟩)),(62,.pointer (some ⟨d,0,none⟩)),(63,.pointer (some ⟨d,1,none⟩)),(64,.slice pR mR cR),(65,.slice q m dq),(66,.int .i64 (m:Int)),(70,.pointer (some ⟨d,0,none⟩)),(71,.pointer (some ⟨d,1,none⟩))] ++ [(67,.slice (some ⟨x.1,0,none⟩) m m),(68,.slice (some ⟨x.2.1,0,none⟩) 1 1),(69,x.2.2)])
    (fun x d' W'=>MkC w9 d m (.slice pR mR cR) (d + 1) fls.length (hdV (fls.map rows0) pr).flatten x (d' 7) (d' 8) (d' 9) (d' 12) W') (by kernel_rfl) (by kernel_rfl) (by kernel_rfl) (by kernel_rfl) (fun x=>by kernel_rfl)
    (MkC.start (Mod.refl _ _).drew) ?_ ?_
   ·intro aF hAF
    have E5:∀ x,(aF x).eval (.tmp 5) = .pointer (some ⟨d,0,none⟩):=by intro x; rw [hAF]; kernel_rfl
    have E7:∀ x,(aF x).eval (.tmp 7) = .slice q m dq:=by intro x; rw [hAF]; kernel_rfl
    have T60:∀ x,(aF x).tmps[60]? = some (.pointer (some ⟨d,0,none⟩)):=by intro x; rw [hAF]; kernel_rfl
    have T61:∀ x,(aF x).tmps[61]? = some (.pointer (some ⟨d,0,none⟩)):=by intro x; rw [hAF]; kernel_rfl
    have T62:∀ x,(aF x).tmps[62]? = some (.pointer (some ⟨d,0,none⟩)):=by intro x; rw [hAF]; kernel_rfl
    have T63:∀ x,(aF x).tmps[63]? = some (.pointer (some ⟨d,1,none⟩)):=by intro x; rw [hAF]; kernel_rfl
    have T64:∀ x,(aF x).tmps[64]? = some (.slice pR mR cR):=by intro x; rw [hAF]; kernel_rfl
    have T65:∀ x,(aF x).tmps[65]? = some (.slice q m dq):=by intro x; rw [hAF]; kernel_rfl
    have T66:∀ x,(aF x).tmps[66]? = some (.int .i64 (m:Int)):=by intro x; rw [hAF]; kernel_rfl
    have T70:∀ x,(aF x).tmps[70]? = some (.pointer (some ⟨d,0,none⟩)):=by intro x; rw [hAF]; kernel_rfl
    have T71:∀ x,(aF x).tmps[71]? = some (.pointer (some ⟨d,1,none⟩)):=by intro x; rw [hAF]; kernel_rfl
    have T67:∀ x,(aF x).tmps[67]? = some (.slice (some ⟨x.1,0,none⟩) m m):=by intro x; rw [hAF]; kernel_rfl
    have T68:∀ x,(aF x).tmps[68]? = some (.slice (some ⟨x.2.1,0,none⟩) 1 1):=by intro x; rw [hAF]; kernel_rfl
    have T69:∀ x,(aF x).tmps[69]? = some (x.2.2):=by intro x; rw [hAF]; kernel_rfl
    replace hAF:=Lib.hid hAF
    refine ⟨?_,?_,?_,?_,?_,?_,?_,?_,?_,?_,?_,?_,?_,trivial⟩
    ·exact oq T60 rfl rfl fun x d w' hd hc=>sv (run_mov rfl (E5 x)) hc
    ·exact oq T61 rfl rfl fun x d w' hd hc=>sv (run_mov rfl (E5 x)) hc
    ·exact oq T62 rfl rfl fun x d w' hd hc=>sv (run_nilP rfl (ev T61 x)) hc
    ·exact oq T63 rfl rfl fun x d w' hd hc=>sv (run_fldT rfl (ev T62 x) (fun _=>by kernel_rfl)) hc
    ·exact opOk3_quietL _ (by intro x t hd _; cases hd; exact T64 x) (fun _=>rfl) fun x d w' hd hn hc=>sv (run_load1 rfl (ev T63 x) (hRl.out _ (hc.m0 (hn 9 (by kernel_rfl))))) hc
    ·exact oq T65 rfl rfl fun x d w' hd hc=>sv (run_mov rfl (E7 x)) hc
    ·exact oq T66 rfl rfl fun x d w' hd hc=>sv (run_len28 rfl (ev T65 x)) hc
    ·exact opOk3_loud rfl fun x dn w' hd hn hc=>by
       have n7:dn 7 = false:=hn 7 (by kernel_rfl)
       have n8:dn 8 = false:=hn 8 (by kernel_rfl)
       have n9:dn 9 = false:=hn 9 (by kernel_rfl)
       have n12:dn 12 = false:=hn 12 (by kernel_rfl)
       rw [n7,n8,n9,n12] at hc
       refine sk_v (run_mks28 hm12 rfl (ev T66 x) (ev T66 x)) ⟨(w'.heap.size,x.2),(by rw [hAF.out]; exact agree_set 9 (67,.slice (some ⟨x.1,0,none⟩) m m) rfl (by kernel_rfl)),(by intro t hd _; cases hd; exact T67 _),?_⟩
       show MkC w9 d m (.slice pR mR cR) (d + 1) fls.length (hdV (fls.map rows0) pr).flatten _ true (dn 8) (dn 9) (dn 12) _
       rw [n8,n9,n12]
       exact hc.op7
    ·exact opOk3_loud rfl fun x dn w' hd hn hc=>by
       have n7:dn 7 = true:=hd 7 (by kernel_rfl)
       have n8:dn 8 = false:=hn 8 (by kernel_rfl)
       have n9:dn 9 = false:=hn 9 (by kernel_rfl)
       have n12:dn 12 = false:=hn 12 (by kernel_rfl)
       rw [n7,n8,n9,n12] at hc
       refine sk_v (run_bsl28 rfl (ev T67 x) (rsl_r28 _ _ _ _)) ⟨(x.1,w'.heap.size,x.2.2),(by rw [hAF.out]; exact agree_set 10 (68,.slice (some ⟨x.2.1,0,none⟩) 1 1) rfl (by kernel_rfl)),(by intro t hd _; cases hd; exact T68 _),?_⟩
       show MkC w9 d m (.slice pR mR cR) (d + 1) fls.length (hdV (fls.map rows0) pr).flatten _ (dn 7) true (dn 9) (dn 12) _
       rw [n7,n9,n12]
       exact hc.op8
    ·exact opOk3_loud rfl fun x dn w' hd hn hc=>by
       have n8:dn 8 = true:=hd 8 (by kernel_rfl)
       have n7:dn 7 = true:=hc.i8 n8
       have n9:dn 9 = false:=hn 9 (by kernel_rfl)
       have n12:dn 12 = false:=hn 12 (by kernel_rfl)
       rw [n7,n8,n9,n12] at hc
       refine sk_app r28_el (d + 1) (Nat.le_trans hbs9.out (hc.m0 rfl).size) _ fls.length (hdV (fls.map rows0) pr).flatten rfl (ev T64 x) (own_mod hO9.out (hc.m0 rfl) (fun _ _ h=>h)) hN9 ⟨x.2.1,0,none⟩ 1 1 [.slice (some ⟨x.1,0,none⟩) m m] (ev T68 x) rfl (by omega) (row_cells (hc.b rfl rfl)) (by simp [Value.oneCell']) ?_
       intro v' w'' h2 h3
       refine ⟨(x.1,x.2.1,v'),(by rw [hAF.out]; exact agree_set 11 (69,x.2.2) rfl (by kernel_rfl)),(by intro t hd _; cases hd; exact T69 _),?_⟩
       show MkC w9 d m (.slice pR mR cR) (d + 1) fls.length (hdV (fls.map rows0) pr).flatten _ (dn 7) (dn 8) true (dn 12) _
       rw [n7,n8,n12]
       exact hc.op9 h2 h3
    ·exact oq T70 rfl rfl fun x d w' hd hc=>sv (run_nilP rfl (ev T60 x)) hc
    ·exact oq T71 rfl rfl fun x d w' hd hc=>sv (run_fldT rfl (ev T70 x) (fun _=>by kernel_rfl)) hc
    ·exact opOk3_loud rfl fun x dn w' hd hn hc=>by
       have n9:dn 9 = true:=hd 9 (by kernel_rfl)
       have n8:dn 8 = true:=hc.i9 n9
       have n7:dn 7 = true:=hc.i8 n8
       have n12:dn 12 = false:=hn 12 (by kernel_rfl)
       rw [n7,n8,n9,n12] at hc
       obtain ⟨W1,W2,h1,h2,h3,h4,h5⟩:=hc.o rfl
       obtain rfl:w' = W2:=h5
       obtain ⟨q8,m8,c8,e8⟩:=own_isS h3
       obtain ⟨f1,f2⟩:=hBx.out W1 w' h1 h4
       refine sk_s (run_st28 rfl (ev T71 x) ((ev T69 x).trans e8) f1 f2) ⟨x,agree_same _ _,(by intro t hd _; cases hd),?_⟩
       show MkC w9 d m (.slice pR mR cR) (d + 1) fls.length (hdV (fls.map rows0) pr).flatten _ (dn 7) (dn 8) (dn 9) true _
       rw [n7,n8,n9,← e8]
       exact hc.op12
   ·intro x dn w' hd hc9
    simp only [putAll,List.foldl_cons,List.foldl_nil,List.cons_append,List.nil_append,Act.put,List.setIfInBounds_toArray,List.set_cons_succ,List.set_cons_zero]
    rw [hd 7 (by decide),hd 8 (by decide),hd 9 (by decide),hd 12 (by decide)] at hc9
    obtain ⟨W1,W2,h1,⟨hB,hxg⟩,h3,h4,h5⟩:=hc9.o rfl
    rw [← hm.out] at hB h3
    obtain ⟨hK10,hM10⟩:=(hK9.out.quiet h1).addR (fl:=fl) (g:=x.1) (dq:=fl.length) hB (Nat.le_trans hbs9.out hxg) h3 h4
    obtain rfl:w' = W2.setCell ⟨d,1,none⟩ x.2.2:=h5
    have h7:=hlo.out
    have h8:=hdB.out
    have hS10:=Lib.hid ((hS9.out.mod h1).mod8 hM10 (by omega) (fun i b hb=>by
     obtain ⟨a,ha,hc⟩:=hA0.out.els i b hb
     exact ⟨a,ha,by have:=World.block_lt_of_cell? _ _ hc; rw [add_block] at this; exact this⟩) (fun k hk=>by omega:∀ k,(d + 1≤k∨k = d)→w.heap.size≤k))
    have hbW:=hb9.out.trans (h1.below hb9.out.size (fun _ h=>h.elim))
    have hb10:=Lib.hid (hbW.trans (hM10.below hbW.size (fun k hk=>by omega)))
    have hz10:=Lib.hid (Nat.le_trans hbs9.out (Nat.le_trans h1.size hM10.size))
    replace hK10:=Lib.hid hK10
    have hcl:=Lib.hid (show (fls ++ [fl]).length = c + 1 from by rw [List.length_append,hc.out]; rfl)
    clear hc9 hd h1 hB hxg h3 h4 hM10 hbW hS9 hK9 hb9 hbs9 hRl hO9 hBx hN9 hm12
    generalize W2.setCell ⟨d,1,none⟩ x.2.2 = w10 at *
    go_wp2_with fail
    go_roundw
    case rel=>exact ⟨fls ++ [fl],_,_,_,_,k',by rw [hcl.out]; omega,by rw [hcl.out]; rfl,by rw [hcl.out]; omega,fun i hi=>by
     rw [getD_snoc28]
     by_cases h1:i < fls.length
     ·rw [if_pos h1]; exact hok.out i h1
     ·rw [if_neg h1,if_pos (by rw [List.length_append,List.length_singleton] at hi; omega)]
      exact ⟨by rw [hm.out]; exact hf2,hfv⟩,hS10.out,hK10.out,hb10.out,hz10.out⟩
    case measure=>simp [intOf]; omega
  ·have hNl:fls.length = NN:=by omega
   obtain ⟨gR,F,qF,cF,cR,qss,hRd,hFB,hTy,hgR⟩:=hK.deal (B0:=w.heap.size) (by omega) (by have:=hdB.out; omega) ⟨hdB.out,hqB.out⟩
   have hn4:1≤fls.length∧fls.length≤4:=by omega
   have hnI:(fls.length:Int) = 1 + nn % 4:=by omega
   have hblC:=hK.a.blkC
   have hnew:∀ c,c < fls.length→newC (fls.getD c []) t = 0:=fun c hc=>by
    obtain ⟨h1,h2⟩:=hok c hc
    unfold newC
    rw [if_neg (by omega),if_neg,if_neg]
    ·rw [List.any_eq_true]
     rintro ⟨q,hq,h⟩
     rw [hT0 q hq] at h
     simp at h
    ·rw [List.any_eq_true]
     rintro ⟨v,hv,h⟩
     rw [h2 v hv] at h
     simp at h
   have hpost:=Lib.hid (fun s8 wx (h:Lp2 w d gR w.heap.size C fls t qF cF pf cR qT dT s8 wx)=>h.post hn4 (fun c hc=>(hok c hc).1) hnew hTl (by have:=hdB.out; omega) hdB.out)
   have hgd:w.heap.size ≠ d∧w.heap.size ≠ gR:=by have:=hz4.out; omega
   have hlt':¬ (fls.length:Int) < 1 + nn % 4:=by omega
   have hnd2:=hdB.out
   have hgR2:=hgR
   replace hnew:=Lib.hid hnew
   replace hnI:=Lib.hid hnI
   replace hNl:=Lib.hid hNl
   clear hK hS hok
   go_wp2_with fail
   go_loopw [8] (Lp2 w d gR w.heap.size C fls t qF cF pf cR qT dT) (fun s8 _=>8 - (intOf s8).toNat)
   case atStart=>exact ⟨[],F,pr,qss,none,0,by simp,rfl,fun j hj=>by simp at hj,hRd,World.ownsRow_nil _ _ _ _,hFB,hTy,hblC,hb,hbs⟩
   case round=>
    clear hRd hFB hTy hblC hb hbs
    have hrel0:=Lib.hid hrel
    obtain ⟨H,F,pr,qss,qH,cH,h1,rfl,h3,h4,h5,h6,h7,h8,h9,h10⟩:=hrel
    have k4:=h8.cell g4
    obtain ⟨r,hr⟩:∃ r,H.length = r:=⟨_,rfl⟩
    rw [hr] at h1 ⊢
    by_cases hgo:r < 8∧r < W.length
    ·obtain ⟨hr8,hrW⟩:=hgo
     have hr8I:(r:Int) < 8:=by omega
     have hrWI:(r:Int) < (W.length:Int):=by omega
     have hWl:=hW.out.len
     have s1:IntKind.i64.wrap ((r:Int) + 1) = (r:Int) + 1:=IntWalk.i64_in _ (by omega)
     obtain ⟨a,rfl,hcw⟩:=hW.out.els r W[r] (List.getElem?_eq_getElem hrW)
     have hbr:=hW.out.rng _ (List.getElem_mem hrW)
     generalize W[r] = b at hcw hbr
     have hlw:=Lib.hid (run_u8_28 ((h9.cell (World.block_lt_of_cell? _ _ hcw)).trans hcw))
     obtain ⟨c,hcE⟩:∃ c:Nat,(c:Int) = b % (1 + nn % 4):=⟨(b % (1 + nn % 4)).toNat,by have:=Int.emod_nonneg b (show (1 + nn % 4:Int) ≠ 0 by omega); omega⟩
     have hcl:c < fls.length:=by
      have:=Int.emod_lt_of_pos b (show (0:Int) < 1 + nn % 4 by omega)
      have:=hnI.out
      omega
     have hput:=rput28_calls h4 (c:=c) (r:=r) hcl (rsH_at hnew.out H.length (by omega) h3 c hcl).1 (by omega) (by have:=rsH_new hnew.out (k:=H.length) (by omega) h3 hcl; rw [hr] at this ⊢; exact this)
     have hsn:=fun h=>okH_snoc (c:=c) h3 hcl h
     rw [hr] at hput hsn
     have hm0:(0:Int) < 1 + nn % 4:=by omega
     have hmb:(1 + nn % 4:Int)≤9223372036854775807:=by omega
     obtain ⟨CR,hBR⟩:=h4.tb
     have hBRl:=hBR.lt
     rw [hr] at h5
     have hOR:=Lib.hid (fun (w5:World) (hm:Mod (· = gR) wr w5)=>own_mod h5 hm (fun k hk e=>own_ne h5 hk hBR (by decide) e.symm))
     replace hsn:=Lib.hid hsn
     replace hcE:=Lib.hid hcE
     replace h3:=Lib.hid h3
     replace h6:=Lib.hid h6
     replace h7:=Lib.hid h7
     replace h8:=Lib.hid h8
     replace h9:=Lib.hid h9
     replace hr:=Lib.hid hr
     clear h4 h5 hcw hBR
     go_upto_region 16 with (first | (refine wpList_v rfl (.pointer (some (a.add r))) (run_ixB rfl rfl rfl hrW) ?_) | (refine wpList_load_v rfl 5 _ rfl (a.add r) rfl _ hlw.out ?_) | (refine wpList_v rfl (.int .i64 (c:Int)) (run_remD rfl rfl rfl hbr.1 hm0 hcE.out hmb) ?_))
     clear k4 hlw
     go_wp2_with fail
     refine hput.mono ?_
     clear hput
     rintro e w5 (⟨hu,rfl,hb5⟩ | ⟨hu,rfl,hm5,F',pr',qss',hF',hTy',hRd'⟩)
     ·have hrel5:=Lib.hid (hrel0.out.below hb5)
      clear hrel0 hOR h10 hb5
      go_wp2_with fail
      go_ret
      exact hpost.out _ _ hrel5.out
     ·obtain ⟨hs1,hs2⟩:=hsn.out hu
      rw [← hs2] at hRd'
      have hTy5:=hTy' _ h7.out
      have hO5:=hOR.out w5 hm5
      have hb5:=h9.out.trans (hm5.below h9.out.size (fun k hk=>by omega))
      have hC5:=h8.out.mod hm5 (fun e=>hgd.2 e)
      have hz5:=Nat.le_trans h10 hm5.size
      have k3:=hRd'.box.cell (i:=3) rfl
      have hA5:Mod (fun _=>False) w5 (w5.alloc (.cells #[.int .i64 (c:Int)] 3)):=(Mod.refl (fun _=>False) w5).alloc _
      have hRA:=Lib.hid (hRd'.mod hA5 (fun _ h=>h.elim) (fun h=>h) (fun h=>h))
      have hTA:=Lib.hid (hTy5.mod hA5 (fun _ h=>h.elim))
      have hCA:=Lib.hid (hC5.mod hA5 (fun h=>h))
      have hOA:=Lib.hid (own_mod hO5 hA5 (fun _ _ h=>h))
      have hbA:=Lib.hid (hb5.alloc hb5.size (.cells #[.int .i64 (c:Int)] 3))
      have hzA:=Lib.hid (show d + 1≤(w5.alloc (.cells #[.int .i64 (c:Int)] 3)).heap.size from Nat.le_trans hz5 hA5.size)
      have hF6:=Lib.hid (fun k (hk:F' k)=>(by
       rcases hF' k hk with h | h
       ·exact h6.out k h
       ·have:=h9.out.size; omega:w.heap.size≤k))
      replace hs1:=Lib.hid hs1
      clear hRd' hTy' hF' hO5 hb5 hC5 hz5 hA5 hTy5 hOR h10 hm5 hrel0 hsn h3 h6 h7 h8 h9
      go_upto_region 14 with (first | (refine wpList_bs1 rfl 35 1 0 _ rfl (.int .i64 (c:Int)) rfl _ _ (rsl_n28 _ _) ?_) |
       (refine wpList_appG in_elD rfl _ _ rfl (d + 1) hzA.out _ r _ rfl hOA.out (by omega) ⟨w5.heap.size,0,none⟩ 1 1 [.int .i64 (c:Int)] rfl rfl (by omega) (row_cells (Blk.new w5 _ _)) (by simp [Value.oneCell']) ?_; intro v8 w8 hO8 hg8; obtain ⟨q8,m8,d8,rfl⟩:=own_isS hO8; have hm8:Mod (fun g'=>(Value.slice qH r cH).ownBlock = some g') _ w8:=(Mod.refl _ _).grown hg8 (fun _ h _=>h); have hbx8:=hRA.out.box.mod hm8 (fun e=>by have:=(own_blk_lt hOA.out e).1; omega); have kd8:=hbx8.cell (i:=3) rfl; have fd8:=hbx8.froz 3; replace hm8:=Lib.hid hm8; replace hO8:=Lib.hid hO8; replace hg8:=Lib.hid hg8; clear hbx8))
      have hlow:=fun k hk=>(own_blk_lt hOA.out (g:=k) hk).1
      have hnF:∀ k,(Value.slice qH r cH).ownBlock = some k→¬ F' k:=fun k hk=>by
       cases qH with
       | none=>cases hk
       | some aH=>
        have e:aH.block = k:=Option.some.inj hk
        rw [← e]
        exact hTA.out.own hOA.out (Nat.le_refl _) aH rfl
      have hR8:=hRA.out.mod hm8.out (fun k hk=>hnF k hk) (fun e=>by
       obtain ⟨CR2,hB2⟩:=hRA.out.tb
       exact own_ne hOA.out e hB2 (by decide) rfl) (fun e=>by have:=hlow _ e; omega)
      have hT8:=hTA.out.mod hm8.out hnF
      have hC8:=hCA.out.mod hm8.out (fun e=>by have:=hlow _ e; omega)
      obtain ⟨hm9,hR9⟩:=hR8.hold (.slice q8 m8 d8)
      have hm8l:m8 = r + 1:=own_lenC hO8.out
      have hT9:=hT8.mod hm9 (fun k e hk=>hR8.nd.1 (e ▸ hk))
      have hC9:=hC8.mod hm9 (fun e=>hgd.1 e)
      have hO9:=own_mod hO8.out hm9 (fun k hk e=>by have:=(own_blk_lt hO8.out hk).1; omega)
      have hb8:=grown_low hbA.out (by omega:w.heap.size≤d + 1) (Nat.le_refl _) hOA.out hg8.out
      have hb9:=hb8.trans (hm9.below hb8.size (fun k e=>by omega))
      have hz9:d + 1≤(w8.setCell ⟨d,3,none⟩ (.slice q8 m8 d8)).heap.size:=Nat.le_trans (Nat.le_trans hzA.out hg8.out.size) hm9.size
      have hrel9:Lp2 w d gR w.heap.size C fls t qF cF pf cR qT dT (.int .i64 ((r:Int) + 1)) (w8.setCell ⟨d,3,none⟩ (.slice q8 m8 d8)):=by
       have hl:(H ++ [(c:Int)]).length = r + 1:=by rw [List.length_append,hr.out]; rfl
       refine ⟨H ++ [(c:Int)],F',pr',qss',q8,d8,by omega,by rw [hl]; rfl,by rw [hl]; exact hs1.out,?_,?_,hF6.out,hT9,hC9,hb9,hz9⟩
       ·rw [hl,← hm8l]
        rw [hm8l]
        exact hR9 |> fun h=>by rw [hm8l] at h; exact h
       ·rw [hl,List.map_append,List.flatten_append]
        have:=hO9
        rw [hm8l] at this
        rw [hm8l]
        simp only [List.map_cons,List.map_nil,List.flatten_cons,List.flatten_nil,List.append_nil]
        exact this
      replace hrel9:=Lib.hid hrel9
      clear hlow hnF hR8 hT8 hC8 hm9 hR9 hT9 hC9 hO9 hb8 hb9 hz9 kd8 fd8 hm8 hO8 hg8 hRA hTA hCA hOA hbA hzA hm8l
      generalize w8.setCell ⟨d,3,none⟩ (.slice q8 m8 d8) = w9 at *
      go_wp2_with fail
      go_roundw
      case rel=>exact hrel9.out
      case measure=>simp [intOf]; omega
    ·have hfin:Lp2 w d gR w.heap.size C fls t qF cF pf cR qT dT _ wr:=hrel0.out
     replace hfin:=Lib.hid hfin
     have hWl:=hW.out.len
     clear h3 h4 h5 h6 h7 h8 h9 hrel0
     by_cases hr8:r < 8
     ·have hrW:¬ (r:Int) < (W.length:Int):=by omega
      have hr8I:(r:Int) < 8:=by omega
      go_wp2_with fail
      go_ret
      exact hpost.out _ _ hfin.out
     ·have hr8I:¬ (r:Int) < 8:=by omega
      go_wp2_with fail
      go_ret
      exact hpost.out _ _ hfin.out
end
end
end Go.Proofs.YtkaoflndbcfodaaGreat
