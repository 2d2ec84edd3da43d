/-
  The row 'DealNew': a pack of the texts Bo28, pruned to what the row uses.
-/
import Derived.Test.YtkaoflndbcfodaaGreatDealNewQ30
namespace Go.Proofs.YtkaoflndbcfodaaGreat
set_option maxHeartbeats 8000000
set_option maxRecDepth 100000
section
section
open Go.RowKit
section
variable {P:Program} {T E:TypeId} {n b:Nat}
theorem run_appG2 (hT:ElT P T E n b) {ρ:Operand→Value} {o:Oper} {w:World} {x y:Operand} (base:Nat) (hbase:base≤w.heap.size) (v:Value) (m:Nat) (xs:List Value) (ho:o.op = .call { callee:=.builtin .append,args:=#[x,y],argTypes:=#[T,T] })
  (hx:ρ x = v) (hown:w.ownsRow base E n v m xs) (hm:m≤100000) (a:Addr) (k c:Nat) (news:List Value) (hy:ρ y = .slice (some a) k c) (hl:news.length = k * n) (hk:k≤1000) (hc:∀ j u,news[j]? = some u→w.cell? (a.add j) = some u) (h1:∀ u ∈ news,u.oneCell' = true):
  ∃ v' w',(execOp ρ o).run P w = .ok (.value v') w'∧w'.ownsRow base E n v' (m + k) (xs ++ news)∧w.grownBy w' v.ownBlock∧(v'.ownBlock = v.ownBlock∨∀ g,v'.ownBlock = some g→w.heap.size≤g):=by
 obtain ⟨ht,e1,e2,e3,hp,hb⟩:=hT
 obtain ⟨i,hi⟩:∃ i,P.info? E = some i:=by
  cases h:P.info? E with
  | none=>rw [h] at e1; cases e1
  | some i=>exact ⟨i,rfl⟩
 rw [hi] at e1 e2 e3
 simp only [Option.map_some,Option.some.injEq,Option.bind_some] at e1 e2 e3
 obtain ⟨z,hzz⟩:∃ z,i.zero = some z:=by
  cases hz:i.zero with
  | none=>rw [hz] at e3; cases e3
  | some z=>exact ⟨z,rfl⟩
 rw [hzz] at e3
 simp only [Option.map_some,Option.some.injEq] at e3
 have hbb:(m + k) * b≤101000 * 1000:=Nat.mul_le_mul (by omega) hb
 obtain ⟨v',w',h2,h3,h4,_⟩:=run_append_own (P:=P) w base T o.type E i z n b ht hi hzz e1 e2 e3 hp v m xs hown a k c news hl hc h1 (by unfold maxLen; omega) (by omega) hbase
 refine ⟨v',w',?_,h3,h4,?_⟩
 ·unfold execOp
  simp only [ho,resolve,invoke,builtin,Sem.run_bind,Sem.run_pure,Result.andThen_ok,List.map_toArray,List.map_cons,List.map_nil,hx,hy,h2]
 ·rcases hown.2 with ⟨hv,h0⟩ | ⟨g,cap,cur,hv,hbg,hg,hnc,hcm,hcs,htake⟩
  ·right
   subst hv
   obtain ⟨v2,w2,g2,g3,_⟩:=run_append_own (P:=P) w w.heap.size T o.type E i z n b ht hi hzz e1 e2 e3 hp (.slice none 0 0) m xs ⟨hown.1,.inl ⟨rfl,h0⟩⟩ a k c news hl hc h1 (by unfold maxLen; omega) (by omega) (Nat.le_refl _)
   rw [h2] at g2
   cases g2
   exact fun g hg=>(own_blk_lt g3 hg).1
  ·subst hv
   by_cases hroom:m + k≤cap
   ·left
    have hfit:m * i.size + news.length≤cur.size:=by rw [hl,hcs,e1,← Nat.add_mul]; exact Nat.mul_le_mul_right _ hroom
    have hr:=run_append_room (P:=P) w T o.type E i ht hi g m cap cur hg a k c news (by rw [e1]; exact hl) hc h1 hroom hfit
    rw [h2] at hr
    cases hr
    rfl
   ·right
    obtain ⟨v2,w2,g2,g3,_⟩:=run_append_arg_grows (P:=P) w T o.type E i z n b ht hi hzz e1 e2 e3 hp ⟨g,0,none⟩ m cap xs hown.1 (fun j u hj=>hown.cells (g:=g) rfl j u hj) a k c news hl hc (by omega) (by unfold maxLen; omega) (by omega)
    rw [h2] at g2
    cases g2
    exact fun g hg=>(own_blk_lt g3 hg).1
theorem wpList_appG2 (hT:ElT P T E n b) {ops:Array Oper} {rest:List Oper} {o:Oper} {a:Act} {w:World} {Q:Exit→Act→World→Prop} (hgd:o.guard = none) (x y:Operand) (ho:o.op = .call { callee:=.builtin .append,args:=#[x,y],argTypes:=#[T,T] })
  (base:Nat) (hbase:base≤w.heap.size) (v:Value) (m:Nat) (xs:List Value) (hx:a.eval x = v) (hown:w.ownsRow base E n v m xs) (hm:m≤100000) (q:Addr) (k c:Nat) (news:List Value) (hy:a.eval y = .slice (some q) k c) (hl:news.length = k * n) (hk:k≤1000)
  (hc:∀ j u,news[j]? = some u→w.cell? (q.add j) = some u) (h1:∀ u ∈ news,u.oneCell' = true)
  (h:∀ v' w',w'.ownsRow base E n v' (m + k) (xs ++ news)→w.grownBy w' v.ownBlock→(v'.ownBlock = v.ownBlock∨∀ g,v'.ownBlock = some g→w.heap.size≤g)→wpList P ops Q rest (a.put o.dst v') w'):wpList P ops Q (o :: rest) a w:=
 wpList_plain hgd fun _ hK=>by
  obtain ⟨v',w',h2,h3,h4,h5⟩:=run_appG2 hT base hbase v m xs ho hx hown hm q k c news hy hl hk hc h1
  unfold Oper.wp
  rw [h2]
  exact hK _ _ (h v' w' h3 h4 h5)
end
theorem PcAt.typ {B:Nat} {w:World} {t:List Rq} {p:Pc} (h:PcAt B w t p) {g:Nat} {C:Array Value} {T:TypeId} (hB:Blk w g C T) (hT:T ≠ 84):g ≠ p.gT∧g ≠ p.gM:=by
 obtain ⟨⟨qT,dT,cT,qs,h1⟩,_,_⟩:=h
 obtain ⟨C2,hB2⟩:=h1.tb
 refine ⟨blk_neD hB hB2 hT,fun e=>?_⟩
 obtain ⟨D,⟨es,ck,hm,_⟩,_⟩:=h1.map
 have h2:w.heap[g]? = some (.cells C T (0,0)):=hB
 rw [e,hm] at h2
 cases h2
theorem run_call2_28 {ρ:Operand→Value} {o:Oper} {w:World} {x y:Operand} {F:FuncId} {T1 T2:TypeId} {a b:Value} (ho:o.op = .call { callee:=.value (.func F),args:=#[x,y],argTypes:=#[T1,T2] }) (hx:ρ x = a) (hy:ρ y = b)
  (hF:(callFunc F #[a,b]).run Tryz.prog w = .ok (.enter F #[a,b]) w) (hf:ρ (.func F) = .func (.func F) #[] #[]:=by rfl):(execOp ρ o).run Tryz.prog w = .ok (.enter F #[a,b]) w:=by
 unfold execOp
 simp only [ho]
 go_simp
theorem rsl_p28 (a:Addr) (w:World):(Instr.buildSlice 30 1 #[(0,.pointer (some a))]).run Tryz.prog w = .ok (.slice (some ⟨w.heap.size,0,none⟩) 1 1) (w.alloc (.cells #[.pointer (some a)] 42)):=by kernel_rfl
theorem ptrR_len (L:List Pc):∀ x ∈ L.map ptrR,x.length = 1:=fun x hx=>by
 obtain ⟨p,_,rfl⟩:=List.mem_map.1 hx
 rfl
theorem set_ptr (L:List Pc) {i:Nat} (hi:i < L.length) {p:Pc} (hb:p.b = (L.getD i pc0).b):(L.set i p).map ptrR = L.map ptrR:=by
 rw [List.map_set]
 apply List.ext_getElem?
 intro j
 by_cases hij:i = j
 ·subst hij
  rw [List.getElem?_set_self (by simpa using hi),List.getElem?_map,List.getElem?_eq_getElem hi]
  show some (ptrR p) = some (ptrR L[i])
  unfold ptrR
  rw [hb,List.getD_eq_getElem?_getD,List.getElem?_eq_getElem hi]
  rfl
 ·rw [List.getElem?_set_ne hij]
theorem holdsR_of {A B:List (List Rou2)} {H:List Int} (hl:A.length = B.length) (h:∀ c,A.getD c [] = B.getD c []) (hA:HoldsR A H):HoldsR B H:=fun r hr=>by
 obtain ⟨h1,h2⟩:=hA r hr
 exact ⟨by rw [← hl]; exact h1,fun c=>by rw [← h c]; exact h2 c⟩
theorem run_cI28 {w:World} {p:Addr} {q:Option Addr} {n c:Nat} (h:w.cell? p = some (.slice q n c)):(loadVar 35 p).run Tryz.prog w = .ok (.slice q n c) w:=by go_simp
theorem inv_cell28 {w:World} {a:Addr} {H:List Int} (h:Els w (some a) 1 (H.map inV)) {i:Nat} (hi:i < H.length):w.cell? (a.add i) = some (.int .i64 (H.getD i 0)):=by
 have:=h.cells a rfl i (inV (H.getD i 0)) 0 (.int .i64 (H.getD i 0)) (by rw [List.getElem?_map,List.getElem?_eq_getElem hi,List.getD_eq_getElem?_getD,List.getElem?_eq_getElem hi]; rfl) rfl
 simpa using this
theorem ptr_cell28 {w:World} {a:Addr} {L:List Pc} (h:Els w (some a) 1 (L.map ptrR)) {i:Nat} (hi:i < L.length):w.cell? (a.add i) = some (.pointer (some ⟨(L.getD i pc0).b,0,none⟩)):=by
 have:=h.cells a rfl i (ptrR (L.getD i pc0)) 0 (.pointer (some ⟨(L.getD i pc0).b,0,none⟩)) (by rw [List.getElem?_map,List.getElem?_eq_getElem hi,List.getD_eq_getElem?_getD,List.getElem?_eq_getElem hi]; rfl) rfl
 simpa using this
structure NwC (w0:World) (fl:List Ve) (t:List Rq) (x:Nat) (b:Bool) (W:World):Prop where
 m:Mod (fun _=>False) w0 W
 p:b = true→∃ gT gM F,(∀ k,F k→w0.heap.size≤k)∧PlanAt W F x gT gM 0 fl (rows0 fl) t
def Bo1 (w2:World) (t:List Rq) (fls:List (List Ve)) (s7 s8:Value) (wx:World):Prop:=
 ∃ L:List Pc,L.length≤fls.length∧s8 = .int .i64 (L.length:Int)∧PcsAt w2.heap.size wx t L∧(∀ c,c < L.length→(L.getD c pc0).fl = fls.getD c []∧(L.getD c pc0).rows = rows0 (fls.getD c [])∧(L.getD c pc0).N = 0)∧
  wx.ownsRow w2.heap.size 42 1 s7 L.length (L.map ptrR).flatten∧(∀ p ∈ L,∀ g,s7.ownBlock = some g→¬ p.F g)∧Below w2.heap.size w2 wx
def Bo2 (w2:World) (t:List Rq) (fls:List (List Ve)) (H:List Int) (PB:List (List Value)) (gB:Nat) (CB:Array Value) (s11:Value) (wx:World):Prop:=
 ∃ (L:List Pc) (r:Nat),r≤H.length∧s11 = .int .i64 (r:Int)∧L.length = fls.length∧L.map ptrR = PB∧PcsAt w2.heap.size wx t L∧(∀ c,c < fls.length→(L.getD c pc0).fl = fls.getD c []∧(L.getD c pc0).rows = (rsH fls t H r).getD c []∧(L.getD c pc0).N≤r)∧
  Els wx (some ⟨gB,0,none⟩) 1 PB∧Blk wx gB CB 42∧Below w2.heap.size w2 wx∧∀ p ∈ L,¬ p.F gB
structure BoR (w:World) (B0:Nat) (t:List Rq) (gB:Nat) (CB:Array Value) (L:List Pc) (d gP cP:Nat) (qK:Option Addr) (cK:Nat) (dd gR:Nat) (F:Nat→Prop) (fls:List (List Ve)) (Rs:List (List Rou2)) (H:List Int) (qF:Option Addr) (cF:Nat) (pf:List (Option Addr × Nat)) (cR:Nat) (pr:List (Option Addr × Nat)) (qss:List (List (Option Addr × Nat))) (qT:Option Addr) (cT:Nat) (qH:Option Addr) (cH:Nat):Prop where
 pls:Els w (some ⟨gB,0,none⟩) 1 (L.map ptrR)
 nB:∀ p ∈ L,¬ p.F gB
 blk:Blk w gB CB 42
 pcs:PcsAt B0 w t L
 dl:DlIn w d L H gP cP qK cK
 rd:RdIn w F dd gR fls Rs t qF cF pf cR pr qss qT cT (.slice qH H.length cH)
 hol:Els w qH 1 (H.map inV)
 lo:(∀ k,F k→k < B0)∧gR < B0∧dd < B0∧B0≤w.heap.size∧B0≤gB∧B0≤d∧B0≤gP
 loH:∀ a,qH = some a→a.block < B0∧¬ F a.block∧a.block ≠ gR∧a.block ≠ dd∧∃ C,Blk w a.block C 3
 loK:∀ a,qK = some a→H ≠ []→B0≤a.block
 ok:DkOk fls Rs t H
 len:L.length = fls.length
 eq:∀ c,c < fls.length→(L.getD c pc0).fl = fls.getD c []∧(L.getD c pc0).rows = Rs.getD c []∧(L.getD c pc0).N≤8
def BoPost2 (w:World) (e:Ending) (w':World):Prop:=
 Below w.heap.size w w'∧∃ B0 t gB cB CB L d gP cP qK cK dd gR F fls Rs H qF cF pf cR pr qss qT cT qH cH,w.heap.size≤B0∧e = .returned (.tuple #[.slice (some ⟨gB,0,none⟩) L.length cB,.pointer (some ⟨d,0,none⟩),.pointer (some ⟨dd,0,none⟩),.bool true])∧
  BoR w' B0 t gB CB L d gP cP qK cK dd gR F fls Rs H qF cF pf cR pr qss qT cT qH cH∧w'.ownsRow B0 42 1 (.slice (some ⟨gB,0,none⟩) L.length cB) L.length (L.map ptrR).flatten∧(∀ a,qH = some a→a = ⟨a.block,0,none⟩)∧∀ k,(F k∨k = gR∨k = dd∨∃ a,qH = some a∧k = a.block)→w.heap.size≤k
theorem both2_calls (p pw:Option Addr) (cp cw:Nat) (B W:List Int) (n wd k nn:Int) (w:World) (hA:DrA w p B n wd) (hW:DrA w pw W 0 0) (hnn:0≤nn∧nn < 256):
  Calls Tryz.prog 10 #[.agg (ddC p cp B n wd k pw W cw nn)] w (BoPost2 w):=by
 have hdd:=Lib.hid (fun wx (hb:Below w.heap.size w wx)=>ddeal_calls p pw cp cw B W n wd k nn wx (hA.below hb) (hW.below hb) hnn)
 obtain ⟨C,hC⟩:∃ C,ddC p cp B n wd k pw W cw nn = C:=⟨_,rfl⟩
 have hc6:C.size = 6:=by rw [← hC]; rfl
 rw [hC] at hdd ⊢
 clear hA hW hnn hC
 go_enter Tryz.func10,Tryz.ntmps10
 go_upto_region 1 with fail
 refine wp_world' (fun wx=>Blk wx w.heap.size C 26∧Below w.heap.size w wx) ⟨Blk.new _ _ _,new_below _ _⟩ ?_
 rintro w1 ⟨hB,hb⟩
 have hl1:=Lib.hid (run_load_row' (P:=Tryz.prog) w1 w.heap.size 26 C 26 _ hB Tryz.underlying26 rfl (by rw [hc6]; kernel_rfl))
 have hd1:=hdd.out w1 hb
 clear hB hdd
 go_wp2_with (refine wpList_load_v rfl 26 _ rfl ⟨w.heap.size,0,none⟩ rfl _ hl1.out ?_)
 refine hd1.mono ?_
 clear hd1 hl1
 rintro e w2 ⟨hb2,dd,gR,F,fls,Rs,t,H,qF,cF,pf,cR,pr,qss,qT,cT,qH,cH,rfl,hRd,hEH,hqH,hF,hgR,hddB,hok,hsp⟩
 replace hsp:=Lib.hid hsp
 have hlow:=Lib.hid (show ∀ k,(F k∨k = gR∨k = dd∨∃ a,qH = some a∧k = a.block)→w.heap.size≤k from fun k hk=>by
  have h0:=hb.size
  rcases hk with hk | rfl | rfl | ⟨a,ha,rfl⟩
  ·have:=hF k hk; omega
  ·omega
  ·omega
  ·have:=(hqH a ha).1; omega)
 have hBw:=hb.trans (hb2.mono hb.size)
 have hsz:=hb.size
 have hFlt:=hRd.lt
 have hdlt:=hRd.nd
 have hn4:=hok.many
 obtain ⟨nF,hnF⟩:∃ nF,fls.length = nF:=⟨_,rfl⟩
 have hRl:=Lib.hid (fun (wx:World) (h:Mod (fun k=>w2.heap.size≤k) w2 wx)=>hRd.mod h (fun k hk hF=>by have:=hFlt.1 k hF; omega) (by omega) (by omega))
 have hEHl:=Lib.hid (fun (wx:World) (h:Mod (fun k=>w2.heap.size≤k) w2 wx)=>els_modP hEH h (fun a ha _ e=>by have:=(hqH a ha).2.1; omega))
 have hfin:=Lib.hid hqH
 replace hBw:=Lib.hid hBw
 replace hok:=Lib.hid hok
 clear hb hb2 hEH hqH
 have htl:=hok.out.tl
 go_wp2_with fail
 go_loopw [7,8] (Bo1 w2 t fls) (fun _ s8 _=>nF - (intOf s8).toNat)
 case atStart=>exact ⟨[],Nat.zero_le _,rfl,PcsAt.nil (by omega),fun c hc=>by simp at hc,World.ownsRow_nil _ _ _ _,(fun p hp=>by cases hp),Below.refl _ _⟩
 case round=>
  obtain ⟨L,hL,rfl,hP,hLc,hO,hOF,hb⟩:=hrel
  obtain ⟨c,hc⟩:∃ c,L.length = c:=⟨_,rfl⟩
  rw [hc] at hL ⊢
  have hmw:=(Mod.refl (fun k=>w2.heap.size≤k) w2).after hb
  have hRw:=hRl.out wr hmw
  by_cases hlt:c < nF
  ·have hltF:c < fls.length:=by omega
   have hltI:(c:Int) < (nF:Int):=by omega
   have s1:IntKind.i64.wrap ((c:Int) + 1) = (c:Int) + 1:=IntWalk.i64_in _ (by omega)
   obtain ⟨aV,rfl,hfc⟩:=hRw.fcell hltF
   have hB0w:=Lib.hid (run_cF28 (hRw.box.cell (i:=0) rfl))
   have hB0:=Lib.hid (fun (wx:World) (h:Mod (fun _=>False) wr wx)=>run_cF28 ((hRw.box.mod h (fun h=>h)).cell (i:=0) rfl))
   have hB2:=Lib.hid (fun (wx:World) (h:Mod (fun _=>False) wr wx)=>run_cT28 ((hRw.box.mod h (fun h=>h)).cell (i:=2) rfl))
   have hFc:=Lib.hid (fun (wx:World) (h:Mod (fun _=>False) wr wx)=>run_cV28 (h.cell_of (fun h=>h) hfc))
   have hnew:=hok.out.new c hltF
   have hl2:=hok.out.fl2 c hltF
   have hnw:=Lib.hid (fun (wx:World) (h:Mod (fun _=>False) wr wx)=>(by
    have h2:=hRw.mod h (fun _ h=>h.elim) (fun h=>h) (fun h=>h)
    refine (pnew_calls (pf.getD c (none,0)).1 qT (pf.getD c (none,0)).2 cT (fls.getD c []) t wx (h2.flt c hltF) (by omega) h2.req (by omega)).mono ?_
    rintro e w' ⟨h1,⟨h3,_⟩ | ⟨_,h4⟩⟩
    ·exact absurd hnew h3
    ·exact ⟨h1,h4⟩:Calls Tryz.prog 15 #[.slice (pf.getD c (none,0)).1 (fls.getD c []).length (pf.getD c (none,0)).2,.slice qT t.length cT] wx fun e w'=>Below wx.heap.size wx w'∧∃ b gT gM F,e = .returned (.tuple #[.pointer (some ⟨b,0,none⟩),.int .i64 0])∧(∀ k,F k→wx.heap.size≤k)∧PlanAt w' F b gT gM 0 (fls.getD c []) (rows0 (fls.getD c [])) t))
   rw [hnF] at hB0 hB0w
   obtain ⟨T,hT⟩:∃ T,t.length = T:=⟨_,rfl⟩
   rw [hT] at hB2 hnw
   obtain ⟨qf,df,hpf⟩:∃ qf df,pf.getD c (none,0) = (qf,df):=⟨_,_,rfl⟩
   rw [hpf] at hFc hnw
   dsimp only at hFc hnw
   obtain ⟨fl,hfl⟩:∃ fl,fls.getD c [] = fl:=⟨_,rfl⟩
   rw [hfl] at hFc hnw hnew
   obtain ⟨m,hm⟩:∃ m,fl.length = m:=⟨_,rfl⟩
   rw [hm] at hFc hnw
   obtain ⟨q7,m7,c7,rfl⟩:=own_isS hO
   have hOb:∀ k,(Value.slice q7 m7 c7).ownBlock = some k→w2.heap.size≤k∧k < wr.heap.size:=fun k hk=>own_blk_lt hO hk
   replace hOb:=Lib.hid hOb
   replace hO:=Lib.hid hO
   replace hP:=Lib.hid hP
   replace hLc:=Lib.hid hLc
   replace hOF:=Lib.hid hOF
   replace hb:=Lib.hid hb
   replace hc:=Lib.hid hc
   replace hT:=Lib.hid hT
   replace hpf:=Lib.hid hpf
   replace hfl:=Lib.hid hfl
   replace hm:=Lib.hid hm
   replace hnF:=Lib.hid hnF
   clear hRw hfc hmw
   go_upto_region 6 with (refine wpList_load_v rfl 36 _ rfl ⟨dd,0,none⟩ rfl _ hB0w.out ?_)
   refine wp_region_rove (X:=Nat) 0 (fun x=>[(28,.pointer (some ⟨dd,0,none⟩)),(29,.pointer (some ⟨dd,0,none⟩)),(30,.pointer (some ⟨dd,0,none⟩)),(31,.slice (some aV) nF cF),(32,.int .i64 (c:Int)),(33,.pointer (some (aV.add c))),(34,.slice qf m df),(35,.pointer (some ⟨dd,0,none⟩)),(36,.pointer (some ⟨dd,0,none⟩)),(37,.pointer (some ⟨dd,2,none⟩)),(38,.slice qT T cT),(41,.int .i64 0),(10,.int .i64 0)] ++ [(39,.tuple #[.pointer (some ⟨x,0,none⟩),.int .i64 0]),(27,.tuple #[.pointer (some ⟨x,0,none⟩),.int .i64 0]),(40,.pointer (some ⟨x,0,none⟩)),(9,.pointer (some ⟨x,0,none⟩))])
    (fun x d' W'=>NwC wr fl t x (d' 11) W') (by kernel_rfl) (by kernel_rfl) (by kernel_rfl) (by kernel_rfl) (fun x=>by kernel_rfl)
    ⟨(Mod.refl _ _).drew,(fun h=>by cases h)⟩ ?_ ?_
   ·intro aF hAF
    have E6:∀ x,(aF x).eval (.tmp 6) = .pointer (some ⟨dd,0,none⟩):=by intro x; rw [hAF]; kernel_rfl
    have E8:∀ x,(aF x).eval (.tmp 8) = .int .i64 (c:Int):=by intro x; rw [hAF]; kernel_rfl
    have T28:∀ x,(aF x).tmps[28]? = some (.pointer (some ⟨dd,0,none⟩)):=by intro x; rw [hAF]; kernel_rfl
    have T29:∀ x,(aF x).tmps[29]? = some (.pointer (some ⟨dd,0,none⟩)):=by intro x; rw [hAF]; kernel_rfl
    have T30:∀ x,(aF x).tmps[30]? = some (.pointer (some ⟨dd,0,none⟩)):=by intro x; rw [hAF]; kernel_rfl
    have T31:∀ x,(aF x).tmps[31]? = some (.slice (some aV) nF cF):=by intro x; rw [hAF]; kernel_rfl
    have T32:∀ x,(aF x).tmps[32]? = some (.int .i64 (c:Int)):=by intro x; rw [hAF]; kernel_rfl
    have T33:∀ x,(aF x).tmps[33]? = some (.pointer (some (aV.add c))):=by intro x; rw [hAF]; kernel_rfl
    have T34:∀ x,(aF x).tmps[34]? = some (.slice qf m df):=by intro x; rw [hAF]; kernel_rfl
    have T35:∀ x,(aF x).tmps[35]? = some (.pointer (some ⟨dd,0,none⟩)):=by intro x; rw [hAF]; kernel_rfl
    have T36:∀ x,(aF x).tmps[36]? = some (.pointer (some ⟨dd,0,none⟩)):=by intro x; rw [hAF]; kernel_rfl
    have T37:∀ x,(aF x).tmps[37]? = some (.pointer (some ⟨dd,2,none⟩)):=by intro x; rw [hAF]; kernel_rfl
    have T38:∀ x,(aF x).tmps[38]? = some (.slice qT T cT):=by intro x; rw [hAF]; kernel_rfl
    have T41:∀ x,(aF x).tmps[41]? = some (.int .i64 0):=by intro x; rw [hAF]; kernel_rfl
    have T10:∀ x,(aF x).tmps[10]? = some (.int .i64 0):=by intro x; rw [hAF]; kernel_rfl
    have T39:∀ x,(aF x).tmps[39]? = some (.tuple #[.pointer (some ⟨x,0,none⟩),.int .i64 0]):=by intro x; rw [hAF]; kernel_rfl
    have T27:∀ x,(aF x).tmps[27]? = some (.tuple #[.pointer (some ⟨x,0,none⟩),.int .i64 0]):=by intro x; rw [hAF]; kernel_rfl
    have T40:∀ x,(aF x).tmps[40]? = some (.pointer (some ⟨x,0,none⟩)):=by intro x; rw [hAF]; kernel_rfl
    have T9:∀ x,(aF x).tmps[9]? = some (.pointer (some ⟨x,0,none⟩)):=by intro x; rw [hAF]; kernel_rfl
    replace hAF:=Lib.hid hAF
    refine ⟨?_,?_,?_,?_,?_,?_,?_,?_,?_,?_,?_,?_,?_,?_,?_,?_,?_,trivial⟩
    ·exact oq T28 rfl rfl fun x d w' hd hc=>sv (run_mov rfl (E6 x)) hc
    ·exact oq T29 rfl rfl fun x d w' hd hc=>sv (run_nilP rfl (ev T28 x)) hc
    ·exact oq T30 rfl rfl fun x d w' hd hc=>sv (run_fldT rfl (ev T29 x) (fun _=>by kernel_rfl)) hc
    ·exact oq T31 rfl rfl fun x d w' hd hc=>sv (run_load1 rfl (ev T30 x) (hB0.out _ hc.m)) hc
    ·exact oq T32 rfl rfl fun x d w' hd hc=>sv (run_mov rfl (E8 x)) hc
    ·exact oq T33 rfl rfl fun x d w' hd hc=>sv (run_ixF28 rfl (ev T31 x) (ev T32 x) hlt) hc
    ·exact oq T34 rfl rfl fun x d w' hd hc=>sv (run_load1 rfl (ev T33 x) (hFc.out _ hc.m)) hc
    ·exact oq T35 rfl rfl fun x d w' hd hc=>sv (run_mov rfl (E6 x)) hc
    ·exact oq T36 rfl rfl fun x d w' hd hc=>sv (run_nilP rfl (ev T35 x)) hc
    ·exact oq T37 rfl rfl fun x d w' hd hc=>sv (run_fldT rfl (ev T36 x) (fun _=>by kernel_rfl)) hc
    ·exact oq T38 rfl rfl fun x d w' hd hc=>sv (run_load1 rfl (ev T37 x) (hB2.out _ hc.m)) hc
    ·exact opOk3_loud rfl fun x dn w' hd hn hc=>by
       refine sk (run_call2_28 rfl (ev T34 x) (ev T38 x) (by kernel_rfl)) ((hnw.out w' hc.m).mono ?_)
       rintro e w'' ⟨hb,b,gT,gM,F,rfl,hF,hPl⟩
       refine ⟨_,rfl,b,(by rw [hAF.out]; exact agree_any (by kernel_rfl) (by kernel_rfl)),(by intro t hd _; cases hd; exact T39 _),⟨hc.m.after hb,fun _=>⟨gT,gM,F,fun k hk=>Nat.le_trans hc.m.size (hF k hk),hPl⟩⟩⟩
    ·exact oq T27 rfl rfl fun x d w' hd hc=>sv (run_mov rfl (ev T39 x)) hc
    ·exact oq T40 rfl rfl fun x d w' hd hc=>sv (run_ext rfl (ev T27 x) rfl) hc
    ·exact oq T41 rfl rfl fun x d w' hd hc=>sv (run_ext rfl (ev T27 x) rfl) hc
    ·exact oq T9 rfl rfl fun x d w' hd hc=>sv (run_asg rfl (ev T40 x)) hc
    ·exact oq T10 rfl rfl fun x d w' hd hc=>sv (run_asg rfl (ev T41 x)) hc
   ·intro xb dn w' hd hc9
    simp only [putAll,List.foldl_cons,List.foldl_nil,List.cons_append,List.nil_append,Act.put,List.setIfInBounds_toArray,List.set_cons_succ,List.set_cons_zero]
    rw [hd 11 (by decide)] at hc9
    obtain ⟨gT,gM,F',hF',hPl⟩:=hc9.p rfl
    have hm9:=hc9.m
    clear hc9 hd hB0w hB0 hB2 hFc hnw
    generalize w' = w4 at *
    have hPm:=new_more hP.out (hm9.below (Nat.le_refl _) (fun _ h=>h.elim)) hb.out.size hF' hPl hnew
    have hlt4:∀ q ∈ L ++ [⟨xb,gT,gM,0,fl,rows0 fl,F'⟩],∀ k,q.F k→k < w4.heap.size:=fun q hq k hk=>(hPm.at_ q hq).own.2.2.2 k hk
    have hnS:∀ q ∈ L ++ [⟨xb,gT,gM,0,fl,rows0 fl,F'⟩],∀ k,(Value.slice q7 m7 c7).ownBlock = some k→¬ q.F k:=fun q hq k hk hF=>by
     rcases List.mem_append.1 hq with h | h
     ·exact hOF.out q h k hk hF
     ·rw [List.mem_singleton] at h
      rw [h] at hF
      have:=hF' k hF
      have:=(hOb.out k hk).2
      omega
    have hb4:=hb.out.trans (hm9.below hb.out.size (fun _ h=>h.elim))
    have hPA:=Lib.hid (hPm.below (new_below w4 (.cells #[.pointer (some ⟨xb,0,none⟩)] 42)))
    have hOA:=Lib.hid (own_mod hO.out (hm9.alloc (.cells #[.pointer (some ⟨xb,0,none⟩)] 42)) (fun _ _ h=>h))
    have hbA:=Lib.hid (hb4.alloc hb4.size (.cells #[.pointer (some ⟨xb,0,none⟩)] 42))
    have hzA:=Lib.hid hbA.out.size
    have hc4:c≤100000:=by have:=hnF.out; omega
    replace hnS:=Lib.hid hnS
    replace hlt4:=Lib.hid hlt4
    clear hPm hP hO hb hm9 hb4 hOF hF' hPl
    go_wp2_with (first | (refine wpList_bs1 rfl 30 1 0 _ rfl (.pointer (some ⟨xb,0,none⟩)) rfl _ _ (rsl_p28 _ _) ?_) |
     (refine wpList_appG2 pl_elD rfl _ _ rfl w2.heap.size hzA.out _ L.length _ rfl hOA.out (by rw [hc.out]; exact hc4) ⟨w4.heap.size,0,none⟩ 1 1 [.pointer (some ⟨xb,0,none⟩)] rfl rfl (by omega) (row_cells (Blk.new w4 _ _)) (by simp [Value.oneCell']) ?_; intro v8 w8 hO8 hg8 hd8))
    have hm8:Mod (fun g'=>(Value.slice q7 m7 c7).ownBlock = some g') _ w8:=(Mod.refl _ _).grown hg8 (fun _ h _=>h)
    have hP8:=Lib.hid (hPA.out.mod hm8 (fun q hq k hk=>hnS.out q hq k hk))
    have hOF8:∀ q ∈ L ++ [⟨xb,gT,gM,0,fl,rows0 fl,F'⟩],∀ g,v8.ownBlock = some g→¬ q.F g:=fun q hq g hg hF=>by
     rcases hd8 with h | h
     ·rw [h] at hg
      exact hnS.out q hq g hg hF
     ·have h1:=h g hg
      have h2:=hlt4.out q hq g hF
      simp at h1
      omega
    have hb8:=Lib.hid (grown_low hbA.out (Nat.le_refl _) (Nat.le_refl _) hOA.out hg8)
    replace hO8:=Lib.hid hO8
    replace hOF8:=Lib.hid hOF8
    clear hg8 hd8 hm8 hPA hOA hbA hzA hnS hlt4 hOb
    go_roundw
    case rel=>
     refine ⟨L ++ [⟨xb,gT,gM,0,fl,rows0 fl,F'⟩],by rw [List.length_append,hc.out]; show c + 1≤_; omega,by rw [List.length_append,hc.out]; rfl,hP8.out,fun i hi=>?_,?_,hOF8.out,hb8.out⟩
     ·rw [getD_snoc28]
      by_cases h1:i < L.length
      ·rw [if_pos h1]; exact hLc.out i h1
      ·have h2:i = L.length:=by rw [List.length_append,List.length_singleton] at hi; omega
       rw [if_neg h1,if_pos h2,h2,hc.out,hfl.out]
       exact ⟨rfl,rfl,rfl⟩
     ·rw [List.length_append,List.map_append,List.flatten_append]
      simpa [ptrR] using hO8.out
    case measure=>simp [intOf]; omega
  ·obtain rfl:nF = c:=by omega
   have hB0w:=Lib.hid (run_cF28 (hRw.box.cell (i:=0) rfl))
   rw [hnF] at hB0w
   rcases hO.2 with ⟨hv,h0⟩ | ⟨gB,cap,CB,hv,hgB,hhB,hrest⟩
   ·exfalso
    omega
   ·subst hv
    have hBB:Blk wr gB CB 42:=hhB
    obtain ⟨hEB,-,-,-⟩:=own_els (R:=L.map ptrR) (ptrR_len L) (by rw [List.length_map]; exact hO) (by rw [List.length_map]; omega)
    rw [hc] at hO hrest ⊢
    have hL0:∀ c,c < fls.length→(L.getD c pc0).fl = fls.getD c []∧(L.getD c pc0).rows = (rsH fls t H 0).getD c []∧(L.getD c pc0).N≤0:=fun i hi=>by
     obtain ⟨h1,h2,h3⟩:=hLc i (by omega)
     refine ⟨h1,?_,by omega⟩
     rw [h2]
     show _ = (fls.map rows0).getD i []
     rw [List.getD_eq_getElem?_getD,List.getD_eq_getElem?_getD,List.getElem?_map,List.getElem?_eq_getElem hi]
     rfl
    have hLn:L.length = fls.length:=by omega
    obtain ⟨PB,hPB⟩:∃ PB,L.map ptrR = PB:=⟨_,rfl⟩
    have hown1:=Lib.hid (fun (w':World) (hB':Blk w' gB CB 42)=>(⟨hO.1,.inr ⟨gB,cap,CB,rfl,hgB,hB',hrest⟩⟩:w'.ownsRow w2.heap.size 42 1 (.slice (some ⟨gB,0,none⟩) nF cap) nF (L.map ptrR).flatten))
    rw [hPB] at hEB hown1
    clear hrest
    obtain ⟨Hn,hHn⟩:∃ Hn,H.length = Hn:=⟨_,rfl⟩
    have hH8:=hok.out.hl
    rw [hHn] at hH8
    replace hLn:=Lib.hid hLn
    replace hc:=Lib.hid hc
    replace hnF:=Lib.hid hnF
    replace hHn:=Lib.hid hHn
    have hnb0:=Lib.hid (show ∀ p ∈ L,¬ p.F gB from fun p hp=>hOF p hp gB rfl)
    clear hO hOF hmw hRw hLc
    go_upto_region 10 with (refine wpList_load_v rfl 36 _ rfl ⟨dd,0,none⟩ rfl _ hB0w.out ?_)
    clear hB0w
    go_wp2_with fail
    go_loopw [11] (Bo2 w2 t fls H PB gB CB) (fun s11 _=>Hn - (intOf s11).toNat)
    case atStart=>exact ⟨L,0,Nat.zero_le _,rfl,hLn.out,hPB,hP,hL0,hEB,hBB,hb,hnb0.out⟩
    case round=>
     clear hP hL0 hEB hBB hb hPB hnb0
     obtain ⟨L2,r,hr,rfl,hL2,hPB,hP2,hL2c,hEB,hBB,hb,hnb⟩:=hrel
     replace hnb:=Lib.hid hnb
     have hmw:=(Mod.refl (fun k=>w2.heap.size≤k) w2).after hb
     have hRw:=hRl.out wr hmw
     have hEH:=hEHl.out wr hmw
     have hl3:=Lib.hid (run_cI28 (hRw.box.cell (i:=3) rfl))
     rw [hHn.out] at hl3 hr
     by_cases hlt:r < Hn
     ·have hltI:(r:Int) < (Hn:Int):=by omega
      have s1:IntKind.i64.wrap ((r:Int) + 1) = (r:Int) + 1:=IntWalk.i64_in _ (by omega)
      obtain ⟨⟨o1,o2⟩,o3⟩:=hok.out.ok r (by rw [hHn.out]; exact hlt)
      obtain ⟨aH,rfl⟩:=hEH.some_of (k:=r) (by rw [List.length_map,hHn.out]; exact hlt)
      have hcH:=Lib.hid (run_i64S9 (inv_cell28 hEH (i:=r) (by rw [hHn.out]; exact hlt)))
      obtain ⟨k,hk⟩:=Int.eq_ofNat_of_zero_le o1
      rw [hk,Int.toNat_natCast] at o3
      rw [hk] at hcH o2
      have hkn:k < fls.length:=by omega
      have hkF:k < nF:=by rw [← hnF.out]; exact hkn
      have hkL:k < L2.length:=by omega
      obtain ⟨f1,f2,f3⟩:=hL2c k hkn
      have hcP:=Lib.hid (run_cellPl (ptr_cell28 (by rw [hPB]; exact hEB) hkL))
      have hput:=hP2.put hb.size hkL (by omega) (r:Int) (by unfold wf64; omega)
      have hown:=hP2.get hkL
      have htyp:=hown.typ hBB (by decide)
      have hoF:=hown.own
      have hge:=hown.2.2
      have hrs:rsH fls t H (r + 1) = (rsH fls t H r).set k (pputP (fls.getD k []) ((rsH fls t H r).getD k []) t (r:Int)).1:=by
       show (rsH fls t H r).set _ _ = _
       rw [hk,Int.toNat_natCast]
      rw [f1,f2,o3] at hput
      have hrl:=rsH_len fls t H r
      replace hL2c:=Lib.hid hL2c
      replace hPB:=Lib.hid hPB
      replace hL2:=Lib.hid hL2
      replace hb:=Lib.hid hb
      replace hEB:=Lib.hid hEB
      replace hBB:=Lib.hid hBB
      replace hrs:=Lib.hid hrs
      replace hrl:=Lib.hid hrl
      replace htyp:=Lib.hid htyp
      replace hoF:=Lib.hid hoF
      replace hge:=Lib.hid hge
      replace hk:=Lib.hid hk
      replace f1:=Lib.hid f1
      replace f2:=Lib.hid f2
      clear hP2 hmw hRw hEH o1 o2 o3 hown
      obtain ⟨bk,hbk⟩:∃ bk,(L2.getD k pc0).b = bk:=⟨_,rfl⟩
      rw [hbk] at hcP hput
      replace hbk:=Lib.hid hbk
      go_upto_region 13 with (refine wpList_load_v rfl 35 _ rfl ⟨dd,3,none⟩ rfl _ hl3.out ?_)
      go_wp2_with (first | (refine wpList_load_v rfl 35 _ rfl ⟨dd,3,none⟩ rfl _ hl3.out ?_) | (refine wpList_v rfl (.pointer (some (aH.add r))) (run_ixIn (k:=r) rfl rfl rfl hlt) ?_) | (refine wpList_load_v rfl 3 _ rfl (aH.add r) rfl _ hcH.out ?_) | (refine wpList_v rfl (.pointer (some ((⟨gB,0,none⟩:Addr).add k))) (run_ixPl (k:=k) rfl rfl rfl hkF) ?_) | (refine wpList_load_v rfl 42 _ rfl ((⟨gB,0,none⟩:Addr).add k) rfl _ hcP.out ?_))
      refine hput.mono ?_
      clear hput hl3 hcH hcP
      rintro e w5 ⟨rfl,hm5,F',hF',hP5⟩
      have hgS:∀ q,(q = (L2.getD k pc0).gT∨q = (L2.getD k pc0).gM)→w2.heap.size≤q:=fun q hq=>by
       rcases hq with rfl | rfl
       ·exact hge.out _ hoF.out.2.1
       ·exact hge.out _ hoF.out.2.2.1
      have hb5:=Lib.hid (hb.out.trans (hm5.below hb.out.size hgS))
      have hnB:¬ (gB = (L2.getD k pc0).gT∨gB = (L2.getD k pc0).gM):=fun h=>h.elim htyp.out.1 htyp.out.2
      have hEB5:=Lib.hid (els_modP hEB.out hm5 (fun a ha _=>by cases ha; exact hnB))
      have hBB5:=Lib.hid (hBB.out.mod hm5 hnB)
      have hBlt:=hBB.out.lt
      have hnb5:=Lib.hid (show ∀ q:Pc,q.F = F'→∀ p ∈ L2.set k q,¬ p.F gB from fun q hq p hp hf=>by
       rcases List.mem_or_eq_of_mem_set hp with hp | rfl
       ·exact hnb.out p hp hf
       ·rw [hq] at hf
        rcases hF' _ hf with hf | hf
        ·exact hnb.out _ (mem_getD hkL) hf
        ·omega)
      replace hP5:=Lib.hid hP5
      clear hBlt hnb hm5 hgS hnB hF' hEB hBB hb hoF hge htyp
      go_wp2_with fail
      go_roundw
      case rel=>
       refine ⟨_,r + 1,by rw [hHn.out]; omega,by simp,by rw [List.length_set]; exact hL2.out,by refine (set_ptr L2 hkL ?_).trans hPB.out; rfl,hP5.out,fun i hi=>?_,hEB5.out,hBB5.out,hb5.out,hnb5.out _ rfl⟩
       obtain ⟨h1,h2,h3⟩:=hL2c.out i hi
       rw [getD_setP L2 _ hkL,hrs.out,getD_set28 _ _ _ (by rw [hrl.out]; exact hkn)]
       by_cases hki:k = i
       ·rw [if_pos hki,if_pos hki]
        subst hki
        exact ⟨h1,rfl,by show (L2.getD k pc0).N + 1≤r + 1; omega⟩
       ·rw [if_neg hki,if_neg hki]
        exact ⟨h1,h2,by omega⟩
      case measure=>simp [intOf]; omega
     ·obtain rfl:r = Hn:=by omega
      have hH8':=hok.out.hl
      have hmn:=hok.out.many
      have hL28:L2.length≤4:=by omega
      have hL21:1≤L2.length:=by omega
      have hRs:∀ c,(rwsL L2).getD c [] = (rsH fls t H r).getD c []:=fun c=>by
       rw [rwsL_at]
       by_cases h:c < fls.length
       ·exact (hL2c c h).2.1
       ·have hrl:=rsH_len fls t H r
        rw [List.getD_eq_getElem?_getD,List.getElem?_eq_none (by omega),List.getD_eq_getElem?_getD,List.getElem?_eq_none (by omega)]
        rfl
      have hho:=rsH_holds hok.out.new (by omega) hok.out.ok
      rw [hHn.out] at hho
      have hho2:HoldsR (rwsL L2) H:=holdsR_of (by rw [rsH_len]; unfold rwsL; rw [List.length_map]; exact hL2.symm) (fun c=>(hRs c).symm) hho
      have hz:=hold_zero (t:=t) hho2 H.length (Nat.le_refl _)
      rw [← dlC_many (t:=t) (L:=L2) (H:=H) (by omega) (by omega) (fun i j hi hj hij=>hP2.ne hi hj hij)] at hz
      have hnew:=dnew_calls (B:=w2.heap.size) (t:=t) (L2.map some) H (some ⟨gB,0,none⟩) qH cap cH wr (by rw [List.map_map]; rw [← hPB] at hEB; exact hEB) hEH (by rw [List.length_map]; omega) (by omega) (fun p hp=>by
       obtain ⟨p',hp',e⟩:=List.mem_map.1 hp
       cases e
       exact hP2.at_ p hp') (by omega) (fun p hp=>by
       obtain ⟨p',hp',e⟩:=List.mem_map.1 hp
       cases e
       obtain ⟨i,hi,rfl⟩:=List.mem_iff_getElem.1 hp'
       have:=(hL2c i (by omega)).2.2
       rw [List.getD_eq_getElem?_getD,List.getElem?_eq_getElem hi] at this
       show L2[i].N≤_
       have h2:L2[i].N≤r:=this
       omega)
      rw [List.length_map,hL2,hHn.out] at hnew
      have hnF':=hnF.out
      rw [hnF'] at hnew
      have hz0:=hz
      have hmm:(L2.map some).map (·.getD pc0) = L2:=by
       rw [List.map_map]
       exact List.map_id L2
      unfold DnPost28 at hnew
      rw [hz,hmm] at hnew
      replace hRs:=Lib.hid hRs
      replace hho:=Lib.hid hho
      replace hL2c:=Lib.hid hL2c
      replace hL2:=Lib.hid hL2
      replace hPB:=Lib.hid hPB
      replace hP2:=Lib.hid hP2
      replace hEB:=Lib.hid hEB
      replace hBB:=Lib.hid hBB
      replace hb:=Lib.hid hb
      clear hho2 hz hmm hEH hRw hmw hnF'
      go_upto_region 16 with (refine wpList_load_v rfl 35 _ rfl ⟨dd,3,none⟩ rfl _ hl3.out ?_)
      go_wp2_with (refine wpList_load_v rfl 35 _ rfl ⟨dd,3,none⟩ rfl _ hl3.out ?_)
      refine hnew.mono ?_
      clear hnew hl3
      rintro e w5 ⟨hb5,⟨h0,-⟩ | ⟨-,d,gP,cP,qK,cK,rfl,hDl,hd1,hd2,hd3⟩⟩
      ·exact absurd rfl h0
      ·have hbB:=hb.out.trans (hb5.mono hb.out.size)
       have hm5:=(Mod.refl (fun _=>False) wr).after hb5
       have hmw:=(Mod.refl (fun k=>w2.heap.size≤k) w2).after hbB
       have hmF:=(Mod.refl (fun _=>False) w2).after hbB
       have hfinal:BoR w5 w2.heap.size t gB CB L2 d gP cP qK cK dd gR F fls Rs H qF cF pf cR pr qss qT cT qH cH:=by
        have hsz5:=hbB.size
        refine ⟨by rw [hPB.out]; exact hEB.out.below hb5,hnb.out,hBB.out.mod hm5 (fun h=>h),hP2.out.below hb5,hDl,hRl.out w5 hmw,hEHl.out w5 hmw,⟨hFlt.1,hFlt.2,hdlt.2.2,hsz5,hgB,Nat.le_trans hb.out.size hd1,Nat.le_trans hb.out.size hd2⟩,fun a ha=>?_,fun a ha h0=>Nat.le_trans hb.out.size (hd3 a ha h0),hok.out,hL2.out,fun c hc=>?_⟩
        ·obtain ⟨h1,h2,h3,h4,h5,C5,hB5⟩:=hfin.out a ha
         exact ⟨h2,h3,h4,h5,C5,hB5.mod hmF (fun h=>h)⟩
        ·obtain ⟨h1,h2,h3⟩:=hL2c.out c hc
         refine ⟨h1,?_,by omega⟩
         rw [h2,hok.out.rs,hHn.out]
       have hbF:=Lib.hid (hBw.out.trans (hbB.mono hBw.out.size))
       have hsz2:=Lib.hid hBw.out.size
       replace hfinal:=Lib.hid hfinal
       clear hbB hm5 hmw hmF hDl hd1 hd2 hd3 hb5
       have hz:BoPost2 w (.returned (.tuple #[.slice (some ⟨gB,0,none⟩) nF cap,.pointer (some ⟨d,0,none⟩),.pointer (some ⟨dd,0,none⟩),.bool true])) w5:=
        ⟨hbF.out,w2.heap.size,t,gB,cap,CB,L2,d,gP,cP,qK,cK,dd,gR,F,fls,Rs,H,qF,cF,pf,cR,pr,qss,qT,cT,qH,cH,hsz2.out,by rw [hL2.out,hnF.out],hfinal.out,by rw [hL2.out,hnF.out,hPB.out]; exact hown1.out w5 hfinal.out.blk,hsp.out,hlow.out⟩
       replace hz:=Lib.hid hz
       clear hfinal hbF hsz2
       go_wp2_with fail
       exact bodyPost_ret (by simp [results,Tryz.results10,go_sem]) rfl hz.out
end
end
end Go.Proofs.YtkaoflndbcfodaaGreat
